/- Walks: Check, Depth. No condition. -/
import Derived.Test.YtbinaeemcidicaaGreatDoorZYD
import Derived.Test.YtbinaeemcidicaaGreatDoorZYE
set_option maxRecDepth 100000
set_option maxHeartbeats 16000000
namespace Go.Proofs.YtbinaeemcidicaaGreatDoor
open Go.PB Go.RowKit
attribute [local irreducible] Go.Calls
theorem node_all {lv : Value} {cb : Nat} {N : List Nv} (hN : N.length ≤ 1000000) (hz : ∀ y ∈ N, y.nd.ks.length ≤ 1000000) : ∀ (b deep : Nat), deep + b = 33 → NodC lv cb N b deep := by
 intro b
 induction b with
 | zero =>
  intro deep hdb loc wide i h14 M w0 w A depth hd hst hT
  exact node_out (.inr Zf7) hst hT hd (by rw [chkN])
 | succ b ih =>
  intro deep hdb loc wide i h14 M w0 w A depth hd hst hT
  by_cases hi : i < N.length
  ·cases hk : kindsK (N.getD i nv0).nd.kd (N.getD i nv0).nd.ks.length with
   | none => exact node_no hi Zf7 hN hz hst hT hd (.inl hk) (by rw [chkN, List.length_map, if_neg Zf7]; dsimp only; rw [map_getD, hk])
   | some ws =>
    cases hs : saidK (N.getD i nv0).nd loc wide with
    | false => exact node_no hi Zf7 hN hz hst hT hd (.inr ⟨by rw [hk]; rfl, hs⟩) (by rw [chkN, List.length_map, if_neg Zf7]; dsimp only; rw [map_getD, hk]; dsimp only; rw [if_pos hs])
    | true =>
     by_cases h4 : (N.getD i nv0).nd.kd = 4
     ·exact node_func Zf7 hN hz (ih (deep + 1) Zf7) h14 hd hst hT hi hk hs h4
     ·exact node_go Zf7 hN hz (ih (deep + 1) Zf7) h14 hd hst hT hi hk hs h4
  ·exact node_out (.inl Zf7) hst hT hd (by rw [chkN, List.length_map, if_pos Zf7])
def checkP (N : List Nv) : Option Pt :=
 if N.length = 0 ∨ 4096 < N.length ∨ ¬(N.getD 0 nv0).nd.kd = 1 then none else
 match chkN (N.map Nv.nd) 33 false false 0 with
 | none => none
 | some r => if r.2 = N.length then some r.1 else none
def isB (o : Option Pt) : Bool := o.isSome
theorem ckT_ok {lv : Value} {N : List Nv} (hz : ∀ y ∈ N, y.nd.ks.length ≤ 1000000) {M : List Nat} {w0 w : World} {A : List Ent} (hst : St M w0 w A) (hT : RdT A lv N) :
  Calls Tryz.prog 19 #[.agg [lv].toArray] w (GivesS (fun x : Nat => .tuple #[.int .i64 (x : Nat), .bool (isB (checkP N))]) (fun x => x ≤ 32 ∧ ∀ p, checkP N = some p → x = hgtP p) M w0 fun _ => A) := by
 obtain ⟨q, c, rfl⟩ := hT.1.len
 refine calls_of_W (vs := [.agg [.slice q N.length c].toArray]) Tryz.func19 rfl Tryz.ntmps19 (Nat.le_of_ble_eq_true rfl) hst.fromHere ?_
 simp only [argL]
 by_cases h0 : N.length = 0 ∨ 4096 < N.length
 ·have hc : checkP N = none := by unfold checkP; rw [if_pos Zf7]
  rw [hc]
  rcases h0 with h0 | h0
  all_goals (
   repeat' (first | (apply gL; first | (apply Wl.ev rfl rfl; exact Zev) | (refine lB 1 ?_; refine wl_box rfl rfl rfl rfl ?_; intro b1) | apply Wl.nil | (refine Zbr ?_) | ((fail_if_success (apply Wl.chk rfl)); refine Wl.split rfl rfl ?_ ?_ <;> (intro h; try exact Za))) | (apply gQ; first | (apply Wq.ev rfl rfl; exact Zev)) | (apply lW; first | apply W.seq | apply W.region | (refine Zbk ?_) | (refine Zc1 ?_; intro w hs)))
   all_goals first | exact GivesS.ofC hst hs 0 ⟨by decide, fun p h => by cases h⟩ rfl Zr | contradiction | exact Zy | fail)
 ·have hN : N.length ≤ 1000000 := by omega
  obtain ⟨b, off, c', arr, et, fr, wr, he, htm, hcc, hgt⟩ := hT.1.pos Zf7
  cases he
  obtain ⟨kd, hkd⟩ : ∃ kd, (N.getD 0 nv0).nd.kd = kd := ⟨_, rfl⟩
  have g0 : ∀ o, o = off + 0 → arr[o]? = some (.int .i64 kd) := fun o ho => hgt _ _ (nvsC_get (j := 0) (i := 0) Zf7 (by rw [← hkd]; rfl)) _ Zf7
  by_cases h1 : kd = 1
  ·subst h1
   have hc : checkP N = match chkN (N.map Nv.nd) 33 false false 0 with
     | none => none
     | some r => if r.2 = N.length then some r.1 else none := by unfold checkP; rw [if_neg Zf7]
   rw [hc]
   obtain ⟨o, ho⟩ : ∃ o, chkN (N.map Nv.nd) 33 false false 0 = o := ⟨_, rfl⟩
   rw [ho]
   have hnod := fun {M : List Nat} {w0 w : World} {cb : Nat} {A' : List Ent} (hs : St M w0 w (⟨cb, true, ckO (.slice (some ⟨b, off, none⟩) N.length c) ((0 : Nat) : Int) ((0 : Nat) : Int) false⟩ :: A')) (hT' : RdT A' (.slice (some ⟨b, off, none⟩) N.length c) N) => node_all (lv := .slice (some ⟨b, off, none⟩) N.length c) (cb := cb) hN hz 33 0 rfl (loc := false) (wide := false) (i := 0) (fun _ => rfl) (M := M) (w0 := w0) (w := w) (A := A') (depth := 0) (Nat.zero_le _) hs hT'
   rw [ho] at hnod
   cases o with
   | none =>
    repeat' (first | (apply gL; first | (apply Wl.ev rfl rfl; exact Zbl) | (refine lB 1 ?_; refine wl_box rfl rfl rfl rfl ?_; intro b1) | (refine lB 27 ?_; refine wl_box rfl rfl rfl rfl ?_; intro cb) | (refine lC 29 37 ?_; refine wl_callS rfl rfl has37 rfl Zc7 ?_; rintro x ⟨hx32, hx⟩) | apply Wl.nil | ((fail_if_success (apply Wl.chk rfl)); refine Wl.split rfl rfl ?_ ?_ <;> (intro h; try exact Za))) | (apply gQ; first | (apply Wq.ev rfl rfl; exact Zbl)) | (apply lW; first | apply W.seq | ((show W _ _ _ _ _ _ (.inl (.region 4 _ true) :: _) _ _); refine W.regionM [1] [(⟨b1, true, row [.slice (some ⟨b, off, none⟩) N.length c] 24⟩ : Ent)] [(⟨b1, true, row [.slice (some ⟨b, off, none⟩) N.length c] 24⟩ : Ent)] mixed ?_) | apply W.region | apply W.skip | (refine Zbg ?_) | (refine Zc1 ?_; intro w hs)) | ((show Wm _ _ _ _ _ _ _ _ _ _ _ _ _ _ _ _); first | ((refine Zgg ?_)) | (refine Zgq ?_) | (refine Zgs ?_) | (refine Zhs ?_) | (refine Wm.take1 Zj rfl Zj Zk Zf6 rfl rfl Zbl Zb Zb ?_) | (refine Zmf ?_) | ((fail_if_success (refine Zbn ?_)); (refine Zgc ?_ ?_ <;> (intro h; try exact Za))) | ((fail_if_success (refine Zbn ?_)); (refine Zga ?_ ?_ <;> (intro h; try exact Za))) | apply Wm.next) | apply AllO.nil | apply AllO.cons | (refine Or.inl Zk) | ((show _ ∨ Wl _ _ _ _ _ _ _ _ _ _); apply Or.inr) | (refine Zgt ?_))
    all_goals first | exact GivesS.ofC hst hs x ⟨hx32, fun p h => by cases h⟩ Zfh Zr | contradiction | exact Zy
   | some r =>
    obtain ⟨p, nx⟩ := r
    by_cases hnx : nx = N.length
    ·have e1 : (if nx = N.length then some p else none) = some p := if_pos hnx
     dsimp only
     rw [e1]
     repeat' (first | (apply gL; first | (apply Wl.ev rfl rfl; exact Zbl) | (refine lB 1 ?_; refine wl_box rfl rfl rfl rfl ?_; intro b1) | (refine lB 27 ?_; refine wl_box rfl rfl rfl rfl ?_; intro cb) | (refine lC 29 37 ?_; refine wl_callS rfl rfl has37 rfl Zc7 ?_; rintro x ⟨hx32, hx⟩) | apply Wl.nil | ((fail_if_success (apply Wl.chk rfl)); refine Wl.split rfl rfl ?_ ?_ <;> (intro h; try exact Za))) | (apply gQ; first | (apply Wq.ev rfl rfl; exact Zbl)) | (apply lW; first | apply W.seq | ((show W _ _ _ _ _ _ (.inl (.region 4 _ true) :: _) _ _); refine W.regionM [1] [(⟨b1, true, row [.slice (some ⟨b, off, none⟩) N.length c] 24⟩ : Ent)] [(⟨b1, true, row [.slice (some ⟨b, off, none⟩) N.length c] 24⟩ : Ent)] mixed ?_) | apply W.region | apply W.skip | (refine Zbg ?_) | (refine Zc1 ?_; intro w hs)) | ((show Wm _ _ _ _ _ _ _ _ _ _ _ _ _ _ _ _); first | ((refine Zgg ?_)) | (refine Zgq ?_) | (refine Zgs ?_) | (refine Zhs ?_) | (refine Wm.take1 Zj rfl Zj Zk Zf6 rfl rfl Zbl Zb Zb ?_) | (refine Zmf ?_) | ((fail_if_success (refine Zbn ?_)); (refine Zgc ?_ ?_ <;> (intro h; try exact Za))) | ((fail_if_success (refine Zbn ?_)); (refine Zga ?_ ?_ <;> (intro h; try exact Za))) | apply Wm.next) | apply AllO.nil | apply AllO.cons | (refine Or.inl Zk) | ((show _ ∨ Wl _ _ _ _ _ _ _ _ _ _); apply Or.inr) | (refine Zgt ?_))
     all_goals first | exact GivesS.ofC hst hs x ⟨hx32, fun p' h => by cases h; have := hx _ _ rfl; omega⟩ (by show Value.tuple _ = Value.tuple _; rw [decide_eq_true (by first | omega | (dsimp only [nodV]; omega))]; rfl) Zr | contradiction | exact Zy
    ·have e1 : (if nx = N.length then some p else none) = none := if_neg hnx
     dsimp only
     rw [e1]
     repeat' (first | (apply gL; first | (apply Wl.ev rfl rfl; exact Zbl) | (refine lB 1 ?_; refine wl_box rfl rfl rfl rfl ?_; intro b1) | (refine lB 27 ?_; refine wl_box rfl rfl rfl rfl ?_; intro cb) | (refine lC 29 37 ?_; refine wl_callS rfl rfl has37 rfl Zc7 ?_; rintro x ⟨hx32, hx⟩) | apply Wl.nil | ((fail_if_success (apply Wl.chk rfl)); refine Wl.split rfl rfl ?_ ?_ <;> (intro h; try exact Za))) | (apply gQ; first | (apply Wq.ev rfl rfl; exact Zbl)) | (apply lW; first | apply W.seq | ((show W _ _ _ _ _ _ (.inl (.region 4 _ true) :: _) _ _); refine W.regionM [1] [(⟨b1, true, row [.slice (some ⟨b, off, none⟩) N.length c] 24⟩ : Ent)] [(⟨b1, true, row [.slice (some ⟨b, off, none⟩) N.length c] 24⟩ : Ent)] mixed ?_) | apply W.region | apply W.skip | (refine Zbg ?_) | (refine Zc1 ?_; intro w hs)) | ((show Wm _ _ _ _ _ _ _ _ _ _ _ _ _ _ _ _); first | ((refine Zgg ?_)) | (refine Zgq ?_) | (refine Zgs ?_) | (refine Zhs ?_) | (refine Wm.take1 Zj rfl Zj Zk Zf6 rfl rfl Zbl Zb Zb ?_) | (refine Zmf ?_) | ((fail_if_success (refine Zbn ?_)); (refine Zgc ?_ ?_ <;> (intro h; try exact Za))) | ((fail_if_success (refine Zbn ?_)); (refine Zga ?_ ?_ <;> (intro h; try exact Za))) | apply Wm.next) | apply AllO.nil | apply AllO.cons | (refine Or.inl Zk) | ((show _ ∨ Wl _ _ _ _ _ _ _ _ _ _); apply Or.inr) | (refine Zgt ?_))
     all_goals first | exact GivesS.ofC hst hs x ⟨hx32, fun p h => by cases h⟩ Zfh Zr | contradiction | exact Zy
  ·have hc : checkP N = none := by unfold checkP; rw [if_pos Zf7]
   rw [hc]
   repeat' (first | (apply gL; first | (apply Wl.ev rfl rfl; exact Zd3) | (refine lB 1 ?_; refine wl_box rfl rfl rfl rfl ?_; intro b1) | apply Wl.nil | ((fail_if_success (apply Wl.chk rfl)); refine Wl.split rfl rfl ?_ ?_ <;> (intro h; try exact Za))) | (apply gQ; first | (apply Wq.ev rfl rfl; exact Zd3)) | (apply lW; first | apply W.seq | apply W.region | (refine Zbk ?_) | (refine Zc1 ?_; intro w hs)))
   all_goals first | exact GivesS.ofC hst hs 0 ⟨by decide, fun p h => by cases h⟩ rfl Zr | contradiction | exact Zy
end Go.Proofs.YtbinaeemcidicaaGreatDoor
namespace Go.Proofs.YtbinaeemcidicaaGreatDoor
open Go.PB Go.RowKit
attribute [local irreducible] Go.Calls
def errC (o : Option Pt) : Int := match o with
 | none => 221
 | some _ => 0
def hgtC (o : Option Pt) : Int := match o with
 | none => 0
 | some p => ((hgtP p : Nat) : Int)
section
variable {lv : Value} {N : List Nv} {M : List Nat} {w0 w : World} {A : List Ent}
theorem Check_ok (hz : ∀ y ∈ N, y.nd.ks.length ≤ 1000000) (hst : St M w0 w A) (hT : RdT A lv N) :
  Calls Tryz.prog 9 #[.agg [lv].toArray] w (GivesS (fun _ : Unit => .int .i64 (errC (checkP N))) (fun _ => True) M w0 fun _ => A) := by
 refine calls_of_W (vs := [.agg [lv].toArray]) Tryz.func9 rfl Tryz.ntmps9 (Nat.le_of_ble_eq_true rfl) hst.fromHere ?_
 simp only [argL]
 cases hc : checkP N with
 | none =>
  repeat' (first | (apply gL; first | (apply Wl.ev rfl rfl; exact Zev) | (refine lB 1 ?_; refine wl_box rfl rfl rfl rfl ?_; intro b1) | ((refine lC 7 19 ?_; refine wl_callS rfl rfl has19 rfl Zd0 ?_; rintro x ⟨hx32, hx⟩); rw [hc]; dsimp only [isB, Option.isSome]) | apply Wl.nil) | (apply gQ; first | (apply Wq.ev rfl rfl; exact Zev)) | (apply lW; first | apply W.seq | apply W.region | (refine Zbk ?_) | (refine Zba ?_; intro w hs)))
  all_goals first | exact GivesS.of hst hs () trivial rfl Ze | contradiction
 | some p =>
  repeat' (first | (apply gL; first | (apply Wl.ev rfl rfl; exact Zev) | (refine lB 1 ?_; refine wl_box rfl rfl rfl rfl ?_; intro b1) | ((refine lC 7 19 ?_; refine wl_callS rfl rfl has19 rfl Zd0 ?_; rintro x ⟨hx32, hx⟩); rw [hc]; dsimp only [isB, Option.isSome]) | apply Wl.nil) | (apply gQ; first | (apply Wq.ev rfl rfl; exact Zev)) | (apply lW; first | apply W.seq | apply W.region | apply W.skip | (refine Zbg ?_) | (refine Zba ?_; intro w hs)))
  all_goals first | exact GivesS.of hst hs () trivial rfl Ze | contradiction
theorem Depth_ok (hz : ∀ y ∈ N, y.nd.ks.length ≤ 1000000) (hst : St M w0 w A) (hT : RdT A lv N) :
  Calls Tryz.prog 10 #[.agg [lv].toArray] w (GivesS (fun _ : Unit => .int .i64 (hgtC (checkP N))) (fun _ => ∀ p, checkP N = some p → hgtP p ≤ 32) M w0 fun _ => A) := by
 refine calls_of_W (vs := [.agg [lv].toArray]) Tryz.func10 rfl Tryz.ntmps10 (Nat.le_of_ble_eq_true rfl) hst.fromHere ?_
 simp only [argL]
 cases hc : checkP N with
 | none =>
  repeat' (first | (apply gL; first | (apply Wl.ev rfl rfl; exact Zev) | (refine lB 1 ?_; refine wl_box rfl rfl rfl rfl ?_; intro b1) | ((refine lC 7 19 ?_; refine wl_callS rfl rfl has19 rfl Zd0 ?_; rintro x ⟨hx32, hx⟩); rw [hc]; dsimp only [isB, Option.isSome]) | apply Wl.nil) | (apply gQ; first | (apply Wq.ev rfl rfl; exact Zev)) | (apply lW; first | apply W.seq | apply W.region | (refine Zbk ?_) | (refine Zba ?_; intro w hs)))
  all_goals first | exact GivesS.of hst hs () (fun p h => by cases h) rfl Ze | contradiction
 | some p =>
  repeat' (first | (apply gL; first | (apply Wl.ev rfl rfl; exact Zev) | (refine lB 1 ?_; refine wl_box rfl rfl rfl rfl ?_; intro b1) | ((refine lC 7 19 ?_; refine wl_callS rfl rfl has19 rfl Zd0 ?_; rintro x ⟨hx32, hx⟩); rw [hc]; dsimp only [isB, Option.isSome]) | apply Wl.nil) | (apply gQ; first | (apply Wq.ev rfl rfl; exact Zev)) | (apply lW; first | apply W.seq | apply W.region | apply W.skip | (refine Zbg ?_) | (refine Zba ?_; intro w hs)))
  all_goals first | exact GivesS.of hst hs () (fun q h => by cases h; rw [← hx _ hc]; exact hx32) (by rw [hx _ hc]; rfl) Ze | contradiction
end
end Go.Proofs.YtbinaeemcidicaaGreatDoor
