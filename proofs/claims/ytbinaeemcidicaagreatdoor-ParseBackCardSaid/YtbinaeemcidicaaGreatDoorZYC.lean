/- Walks: whether an else would belong into a statement. No condition. -/
import Derived.Test.YtbinaeemcidicaaGreatDoorZVS
import Derived.Test.YtbinaeemcidicaaGreatDoorZCut
set_option maxRecDepth 100000
set_option maxHeartbeats 16000000
namespace Go.Proofs.YtbinaeemcidicaaGreatDoor
open Go.PB Go.RowKit
attribute [local irreducible] Go.Calls
theorem RdT.ro {R : List Ent} {v : Value} {l : List Nv} (h : RdT R v l) : RdT (ro R) v l := ⟨h.1.ro, fun y hy => (h.2 y hy).ro⟩
theorem map_getD (N : List Nv) (i : Nat) : (N.map Nv.nd).getD i nd0 = (N.getD i nv0).nd := by
 simp only [List.getD, List.getElem?_map]
 cases N[i]? <;> rfl
theorem opnL_get : ∀ (l : List Pt) (j : Nat), j < l.length → (opnL l).getD j false = opnP (l.getD j pt0)
 | [], j, h => by simp at h
 | p :: l, 0, _ => by rw [opnL]; rfl
 | p :: l, j + 1, h => by
  rw [opnL]
  simp only [List.getD_cons_succ]
  exact opnL_get l j Zl3
theorem nv_read {lv : Value} {H : List Ent} {N : List Nv} {i : Nat} {kd nm pl : Int} {ty tx : List UInt8} {ks : List Int} {kv : Value} (hT : RdT H lv N) (hi : i < N.length) (hy : N.getD i nv0 = ⟨⟨kd, ty, tx, nm, ks, pl⟩, kv⟩) :
  ∃ b off c arr et fr wr, lv = .slice (some ⟨b, off, none⟩) N.length c ∧ (⟨b, wr, .cells arr et fr⟩ : Ent) ∈ H ∧ (∀ f u, (ndM kd ty tx nm kv pl)[f]? = some u → ∀ o, o = off + i * 6 + f → arr[o]? = some u) ∧ RdX H kv ks.length (intV ks) := by
 obtain ⟨b, off, c, arr, et, fr, wr, hlv, hm, hc, hg⟩ := hT.1.pos Zf7
 refine ⟨b, off, c, arr, et, fr, wr, hlv, hm, fun f u h o ho => ?_, ?_⟩
 ·exact hg _ _ (nvsC_get hi (by rw [hy]; exact h)) _ Zf7
 ·have := hT.2 _ (getD_memN hi)
  rw [hy] at this
  exact this
theorem open_ok {lv : Value} {cb : Nat} {N : List Nv} : ∀ (b : Nat) {loc wide : Bool} {i nx : Nat} {p : Pt}, chkN (N.map Nv.nd) b loc wide i = some (p, nx) →
  ∀ {M : List Nat} {w0 w : World} {H : List Ent} {wr : Bool} {deep depth : Int} {lc : Bool}, St M w0 w H → (⟨cb, wr, ckO lv deep depth lc⟩ : Ent) ∈ H → RdT H lv N → Calls Tryz.prog 74 #[ptr cb, .int .i64 (i : Nat)] w (Give (.bool (opnP p)) w) := by
 intro b
 induction b with
 | zero => intro loc wide i nx p h; rw [chkN] at h; cases h
 | succ b ih =>
 intro loc wide i nx p h M w0 w H wr deep depth lc hst hcm hT
 obtain ⟨c', ws, qs, hb, hi, hk, _, hc, _, rfl⟩ := chkN_get h
 cases hb
 rw [List.length_map] at hi
 rw [map_getD] at hk hc ⊢
 obtain ⟨y, hy⟩ : ∃ y, N.getD i nv0 = y := ⟨_, rfl⟩
 rw [hy] at hk hc ⊢
 obtain ⟨⟨kd, ty, tx, nm, ks, pl⟩, kv⟩ := y
 dsimp only at hk hc ⊢
 obtain ⟨hql, hget⟩ := chkK_get (kinds_len hk) hc
 have hT' := hT.ro
 have hcm' := mem_ro hcm
 obtain ⟨tb, toff, tc, tarr, tet, tfr, twr, hlv, htm, ga, hv⟩ := nv_read hT' hi hy
 obtain ⟨q, c, rfl⟩ := hv.len
 refine give_of_W (vs := [ptr cb, .int .i64 (i : Nat)]) Tryz.func74 rfl Tryz.ntmps74 (Nat.le_of_ble_eq_true rfl) hst.reads ?_
 simp only [argL]
 clear hcm
 have hcm := hcm'
 by_cases h3 : (kd = 7 ∨ kd = 8) ∧ ks.length = 3
 ·have ho : opnP (.mk kd ty tx nm pl qs) = opnP (qs.getD 2 pt0) := by
   rw [opnP, if_neg Zf7, if_pos h3.1, opnL_get _ _ Zf7]
  rw [ho]
  obtain ⟨j, m, hj, hf⟩ := hget 2 Zf7
  have hrec := fun {M : List Nat} {w0 w : World} {H : List Ent} => ih hf (M := M) (w0 := w0) (w := w) (H := H) (wr := false) (deep := deep) (depth := depth) (lc := lc)
  obtain ⟨r, hr⟩ : ∃ r, opnP (qs.getD 2 pt0) = r := ⟨_, rfl⟩
  rw [hr] at hrec ⊢
  obtain ⟨kb, koff, kc, karr, ket, kfr, kwr, he, hmm, hcc, hgt⟩ := hv.pos Zf7
  cases he
  have g0 : ∀ o, o = koff + 2 → karr[o]? = some (.int .i64 (j : Nat)) := fun o e => by
   rw [e]
   exact hgt 2 _ (by rw [← hj]; unfold intV; simp [List.getD, show 2 < ks.length by omega]) _ rfl
  have hcall : ∀ {w' : World} {H' : List Ent}, St [] w w' (⟨tb, false, .cells tarr tet tfr⟩ :: H') → True := fun _ => trivial
  subst hlv
  obtain ⟨h7, h3⟩ := h3
  rcases h7 with rfl | rfl
  all_goals (
   repeat' (first | (apply gL; first | (apply Wl.ev rfl rfl; exact Zcs) | (refine lA 5 ?_; refine wl_alloc rfl rfl (zeroT rfl) ?_; intro b5) | ((show Wl _ _ _ _ _ _ _ (⟨none, .store _ (.tmp 5) (.tmp 12), _, _, _, _⟩ :: _) _ _); refine wl_storeWhole rfl rfl rfl (szT rfl) Zq Zf Zmi ?_) | (refine lD 74 ?_; refine wl_call0 rfl rfl has74 rfl (fun w hs => hrec hs Zhe (hT'.mono (fun e he => List.Mem.tail _ he))) ?_) | apply Wl.nil | (refine Zbr ?_)) | (apply gQ; first | (apply Wq.ev rfl rfl; exact Zcs)) | (apply lW; first | apply W.seq | apply W.region | apply W.block | apply W.skip | (refine Zbk ?_) | (refine Zbg ?_) | (refine Zz ?_ ?_ <;> (intro h; try exact Za)) | (refine Zba ?_; intro w hs)))
   all_goals first | exact ret_eq hs rfl | contradiction | exact Zy | fail)
 ·subst hlv
  by_cases h2 : kd = 7 ∧ ks.length = 2
  ·have ho : opnP (.mk kd ty tx nm pl qs) = true := by rw [opnP, if_pos Zf7]
   rw [ho]
   repeat' (first | (apply gL; first | (apply Wl.ev rfl rfl; exact Zbx) | (refine lA 5 ?_; refine wl_alloc rfl rfl (zeroT rfl) ?_; intro b5) | ((show Wl _ _ _ _ _ _ _ (⟨none, .store _ (.tmp 5) (.tmp 12), _, _, _, _⟩ :: _) _ _); refine wl_storeWhole rfl rfl rfl (szT rfl) Zq Zf Zmi ?_) | apply Wl.nil | ((fail_if_success (apply Wl.chk rfl)); refine Wl.split rfl rfl ?_ ?_ <;> (intro h; try exact Za))) | (apply gQ; first | (apply Wq.ev rfl rfl; exact Zbx)) | (apply lW; first | apply W.seq | apply W.region | apply W.block | (refine Zz ?_ ?_ <;> (intro h; try exact Za)) | (refine Zba ?_; intro w hs)))
   all_goals first | exact ret_eq hs rfl | contradiction | exact Zy
  ·have hno : ¬kd = 7 ∧ ¬kd = 8 := by
    refine ⟨fun e => ?_, fun e => ?_⟩
    ·subst e
     unfold kindsK at hk
     rw [if_neg Zf6, if_neg Zf6, if_neg Zf6, if_neg Zf6, if_neg Zf6, if_pos rfl] at hk
     split at hk
     ·omega
     ·cases hk
    ·subst e
     unfold kindsK at hk
     rw [if_neg Zf6, if_neg Zf6, if_neg Zf6, if_neg Zf6, if_neg Zf6, if_neg Zf6, if_pos rfl] at hk
     split at hk
     ·omega
     ·cases hk
   obtain ⟨n7, n8⟩ := hno
   have ho : opnP (.mk kd ty tx nm pl qs) = false := by rw [opnP, if_neg Zf7, if_neg Zf7]
   rw [ho]
   repeat' (first | (apply gL; first | (apply Wl.ev rfl rfl; exact Zbx) | (refine lA 5 ?_; refine wl_alloc rfl rfl (zeroT rfl) ?_; intro b5) | ((show Wl _ _ _ _ _ _ _ (⟨none, .store _ (.tmp 5) (.tmp 12), _, _, _, _⟩ :: _) _ _); refine wl_storeWhole rfl rfl rfl (szT rfl) Zq Zf Zmi ?_) | apply Wl.nil | (refine Zbr ?_) | ((fail_if_success (apply Wl.chk rfl)); refine Wl.split rfl rfl ?_ ?_ <;> (intro h; try exact Za))) | (apply gQ; first | (apply Wq.ev rfl rfl; exact Zbx)) | (apply lW; first | apply W.seq | apply W.region | apply W.block | apply W.blk | apply W.skip | (refine Zbg ?_) | (refine Zz ?_ ?_ <;> (intro h; try exact Za)) | (refine Zba ?_; intro w hs)))
   all_goals first | exact ret_eq hs rfl | contradiction | exact Zy
end Go.Proofs.YtbinaeemcidicaaGreatDoor
namespace Go.Proofs.YtbinaeemcidicaaGreatDoor
open Go.PB Go.RowKit
attribute [local irreducible] Go.Calls
def nodV (o : Option (Pt × Nat)) : Int := match o with
 | none => -1
 | some x => ((x.2 : Nat) : Int)
def NodC (lv : Value) (cb : Nat) (N : List Nv) (b deep : Nat) : Prop := ∀ ⦃loc wide : Bool⦄ ⦃i : Nat⦄, ((N.getD i nv0).nd.kd = 1 ∨ (N.getD i nv0).nd.kd = 4 → loc = false) →
 ∀ ⦃M : List Nat⦄ ⦃w0 w : World⦄ ⦃A : List Ent⦄ ⦃depth : Nat⦄, depth ≤ 32 → St M w0 w (⟨cb, true, ckO lv (deep : Nat) (depth : Nat) loc⟩ :: A) → RdT A lv N →
  Calls Tryz.prog 37 #[ptr cb, .int .i64 (i : Nat), .bool wide] w (GivesS (fun _ : Nat => .int .i64 (nodV (chkN (N.map Nv.nd) b loc wide i))) (fun x => x ≤ 32 ∧ ∀ q nx, chkN (N.map Nv.nd) b loc wide i = some (q, nx) → x = max depth (deep + hgtP q)) M w0
   (fun x => ⟨cb, true, ckO lv (deep : Nat) (x : Nat) loc⟩ :: A))
section
variable {lv : Value} {cb : Nat} {N : List Nv} {b deep : Nat} {loc wide : Bool} {i : Nat} {M : List Nat} {w0 w : World} {A : List Ent} {depth : Nat}
theorem node_out (hdb : N.length ≤ i ∨ 32 < deep) (hst : St M w0 w (⟨cb, true, ckO lv (deep : Nat) (depth : Nat) loc⟩ :: A)) (hT : RdT A lv N) (hd : depth ≤ 32) {o : Option (Pt × Nat)} (ho : o = none) :
  Calls Tryz.prog 37 #[ptr cb, .int .i64 (i : Nat), .bool wide] w (GivesS (fun _ : Nat => .int .i64 (nodV o)) (fun x => x ≤ 32 ∧ ∀ q nx, o = some (q, nx) → x = max depth (deep + hgtP q)) M w0
   (fun x => ⟨cb, true, ckO lv (deep : Nat) (x : Nat) loc⟩ :: A)) := by
 subst ho
 obtain ⟨q, c, rfl⟩ := hT.1.len
 (refine Zdx ?_; simp only [argL])
 repeat' (first | (apply gL; first | (apply Wl.ev rfl rfl; exact Zev) | (refine Zfn ?_; refine wl_box rfl rfl rfl rfl ?_; intro b3) | apply Wl.nil | (refine Zbr ?_) | ((fail_if_success (apply Wl.chk rfl)); refine Wl.split rfl rfl ?_ ?_ <;> (intro h; try exact Za))) | (apply gQ; first | (apply Wq.ev rfl rfl; exact Zev)) | (apply lW; first | apply W.seq | ((show W _ (bodyPostD _ _ _) _ _ _ [] (.inl .ret :: _) _ _); refine W.ret1N rfl rfl ?_; intro w hs) | apply W.region | apply W.scope0 | (refine Zbk ?_) | (refine Zz ?_ ?_ <;> (intro h; try exact Za))))
 all_goals first | exact GivesS.ofC hst hs depth ⟨hd, fun q nx h => by cases h⟩ rfl Zr | contradiction | exact Zy
theorem node_no (hi : i < N.length) (hd32 : deep ≤ 32) (_ : N.length ≤ 1000000) (hz : ∀ y ∈ N, y.nd.ks.length ≤ 1000000) (hst : St M w0 w (⟨cb, true, ckO lv (deep : Nat) (depth : Nat) loc⟩ :: A)) (hT : RdT A lv N) (hd : depth ≤ 32)
  (hno : kindsK (N.getD i nv0).nd.kd (N.getD i nv0).nd.ks.length = none ∨ ((kindsK (N.getD i nv0).nd.kd (N.getD i nv0).nd.ks.length).isSome = true ∧ saidK (N.getD i nv0).nd loc wide = false)) {o : Option (Pt × Nat)} (ho : o = none) :
  Calls Tryz.prog 37 #[ptr cb, .int .i64 (i : Nat), .bool wide] w (GivesS (fun _ : Nat => .int .i64 (nodV o)) (fun x => x ≤ 32 ∧ ∀ q nx, o = some (q, nx) → x = max depth (deep + hgtP q)) M w0
   (fun x => ⟨cb, true, ckO lv (deep : Nat) (x : Nat) loc⟩ :: A)) := by
 subst ho
 have hkl := hz _ (getD_memN hi)
 obtain ⟨y, hy⟩ : ∃ y, N.getD i nv0 = y := ⟨_, rfl⟩
 rw [hy] at hno hkl
 obtain ⟨⟨kd, ty, tx, nm, ks, pl⟩, kv⟩ := y
 dsimp only at hno hkl
 obtain ⟨tb, toff, tc, tarr, tet, tfr, twr, rfl, htm, ga, hv⟩ := nv_read hT hi hy
 obtain ⟨q, c, rfl⟩ := hv.len
 have hkin := fun {M : List Nat} {w0 w : World} {H : List Ent} (hs : St M w0 w H) => kinds_ok (kd := kd) (nm := nm) (pl := pl) (ty := ty) (tx := tx) (p := q) (k := ks.length) (c := c) hs hkl
 have hsd : ∀ w, Calls Tryz.prog 70 #[.agg (ndM kd ty tx nm (.slice q ks.length c) pl).toArray, .bool loc, .bool wide] w (Give (.bool (saidK ⟨kd, ty, tx, nm, ks, pl⟩ loc wide)) w) := fun w => said_ok w
 rcases hno with hno | ⟨hno, hsf⟩
 ·unfold KindR at hkin
  rw [hno] at hkin
  (refine Zdx ?_; simp only [argL])
  repeat' (first | (apply gL; first | (apply Wl.ev rfl rfl; exact Zb6) | (refine Zfn ?_; refine wl_box rfl rfl rfl rfl ?_; intro b3) | (refine lA 7 ?_; refine wl_alloc rfl rfl (zeroT rfl) ?_; intro b7) | ((show Wl _ _ _ _ _ _ _ (⟨none, .store _ (.tmp 7) (.tmp 33), _, _, _, _⟩ :: _) _ _); refine wl_storeWhole rfl rfl rfl (szT rfl) Zq Zf Zmi ?_) | (refine lC 36 69 ?_; refine wl_callS rfl rfl has69 rfl Zf1 ?_; rintro ⟨kn, ko⟩ hws; dsimp only at hws; refine Wl.reC (H' := ⟨b7, true, row (ndM kd ty tx nm (.slice q ks.length c) pl) 47⟩ :: ⟨b3, true, row [ptr cb] 85⟩ :: ⟨cb, true, ckO (.slice (some ⟨tb, toff, none⟩) N.length tc) (deep : Nat) (depth : Nat) loc⟩ :: (A ++ ownH 3 ko)) Zr ?_) | apply Wl.nil | ((fail_if_success (apply Wl.chk rfl)); refine Wl.split rfl rfl ?_ ?_ <;> (intro h; try exact Za))) | (apply gQ; first | (apply Wq.ev rfl rfl; exact Zb6) | apply Wq.nil | (refine Zek ?_)) | (apply lW; first | apply W.seq | ((show W _ (bodyPostD _ _ _) _ _ _ [] (.inl .ret :: _) _ _); refine W.ret1N rfl rfl ?_; intro w hs) | (refine Zgf ?_) | apply W.region | apply W.skip | apply W.scope0 | (refine Zbk ?_) | (refine Zz ?_ ?_ <;> (intro h; try exact Za))))
  all_goals first | exact GivesS.ofC hst hs depth ⟨hd, fun q nx h => by cases h⟩ rfl Zr | contradiction | exact Zy
 ·unfold KindR at hkin
  rw [hno] at hkin
  rw [hsf] at hsd
  (refine Zdx ?_; simp only [argL])
  repeat' (first | (apply gL; first | (apply Wl.ev rfl rfl; exact Zb6) | (refine Zfn ?_; refine wl_box rfl rfl rfl rfl ?_; intro b3) | (refine lA 7 ?_; refine wl_alloc rfl rfl (zeroT rfl) ?_; intro b7) | ((show Wl _ _ _ _ _ _ _ (⟨none, .store _ (.tmp 7) (.tmp 33), _, _, _, _⟩ :: _) _ _); refine wl_storeWhole rfl rfl rfl (szT rfl) Zq Zf Zmi ?_) | (refine lC 36 69 ?_; refine wl_callS rfl rfl has69 rfl Zf1 ?_; rintro ⟨kn, ko⟩ hws; dsimp only at hws; refine Wl.reC (H' := ⟨b7, true, row (ndM kd ty tx nm (.slice q ks.length c) pl) 47⟩ :: ⟨b3, true, row [ptr cb] 85⟩ :: ⟨cb, true, ckO (.slice (some ⟨tb, toff, none⟩) N.length tc) (deep : Nat) (depth : Nat) loc⟩ :: (A ++ ownH 3 ko)) Zr ?_) | apply Wl.nil | ((fail_if_success (apply Wl.chk rfl)); refine Wl.split rfl rfl ?_ ?_ <;> (intro h; try exact Za))) | (apply gQ; first | (apply Wq.ev rfl rfl; exact Zb6) | (refine qD 70 ?_; refine Wq.call0 rfl rfl has70 rfl (fun w hs => hsd w) ?_) | apply Wq.nil) | (apply lW; first | apply W.seq | ((show W _ (bodyPostD _ _ _) _ _ _ [] (.inl .ret :: _) _ _); refine W.ret1N rfl rfl ?_; intro w hs) | (refine Zgf ?_) | apply W.region | apply W.skip | apply W.scope0 | (refine Zbk ?_) | (refine Zz ?_ ?_ <;> (intro h; try exact Za))))
  all_goals first | exact GivesS.ofC hst hs depth ⟨hd, fun q nx h => by cases h⟩ rfl Zr | contradiction | exact Zy
end
end Go.Proofs.YtbinaeemcidicaaGreatDoor
namespace Go.Proofs.YtbinaeemcidicaaGreatDoor
open Go.PB Go.RowKit
attribute [local irreducible] Go.Calls
theorem kinds_mem {kd : Int} {k : Nat} {ws : List Nat} (h : kindsK kd k = some ws) : ∀ w ∈ ws, w ≤ 6 ∧ (w = 0 → kd = 1) := by
 have key : ∀ {p : Prop} [Decidable p] {a b : Option (List Nat)}, (if p then a else b) = some ws → (p → a = some ws → ∀ w ∈ ws, w ≤ 6 ∧ (w = 0 → kd = 1)) → (¬p → b = some ws → ∀ w ∈ ws, w ≤ 6 ∧ (w = 0 → kd = 1)) → ∀ w ∈ ws, w ≤ 6 ∧ (w = 0 → kd = 1) := fun {p} _ {a b} h h1 h2 => by
  by_cases hp : p
  ·rw [if_pos hp] at h; exact h1 hp h
  ·rw [if_neg hp] at h; exact h2 hp h
 have all : ∀ {m x : Nat}, 0 < x → x ≤ 6 → some (List.replicate m x) = some ws → ∀ w ∈ ws, w ≤ 6 ∧ (w = 0 → kd = 1) := fun h0 h6 h => by
  cases h
  intro w hw
  rw [List.eq_of_mem_replicate hw]
  exact ⟨h6, fun e => absurd e Zf7⟩
 have no : ∀ {q : Prop}, ¬q → (none : Option (List Nat)) = some ws → ∀ w ∈ ws, w ≤ 6 ∧ (w = 0 → kd = 1) := fun _ h => by cases h
 have lit : ∀ {l : List Nat}, (l.all fun w => decide (0 < w) && decide (w ≤ 6)) = true → some l = some ws → ∀ w ∈ ws, w ≤ 6 ∧ (w = 0 → kd = 1) := fun hl h => by
  cases h
  intro w hw
  have := List.all_eq_true.1 hl w hw
  simp only [Bool.and_eq_true, decide_eq_true_eq] at this
  exact ⟨this.2, fun e => absurd e Zf7⟩
 unfold kindsK at h
 refine key h (fun h1 h => by cases h; intro w hw; rw [List.eq_of_mem_replicate hw]; exact ⟨by omega, fun _ => h1⟩) fun _ h => ?_
 refine key h (fun _ h => key h (fun _ => all Zf6 Zf6) no) fun _ h => ?_
 refine key h (fun _ h => key h (fun _ => all Zf6 Zf6) no) fun _ h => ?_
 refine key h (fun _ h => key h (fun _ h => by cases h) fun h0 h => by
  cases h
  intro w hw
  rcases List.mem_append.1 hw with hw | hw
  ·rw [List.eq_of_mem_replicate hw]; exact ⟨by omega, fun e => by cases e⟩
  ·rw [List.mem_singleton.1 hw]; exact ⟨by omega, fun e => by cases e⟩) fun _ h => ?_
 refine key h (fun _ => all Zf6 Zf6) fun _ h => ?_
 refine key h (fun _ h => key h (fun h0 h => by rcases h0 with rfl | rfl <;> exact lit Zf6 h) no) fun _ h => ?_
 refine key h (fun _ h => key h (fun h0 h => lit Zf6 h) no) fun _ h => ?_
 refine key h (fun _ h => key h (fun _ => all Zf6 Zf6) no) fun _ h => ?_
 refine key h (fun _ h => key h (fun _ => all Zf6 Zf6) no) fun _ h => ?_
 refine key h (fun _ h => key h (fun _ => all Zf6 Zf6) no) fun _ h => ?_
 refine key h (fun _ => all Zf6 Zf6) fun _ h => ?_
 exact key h (fun h0 h => by cases h; intro w hw; cases hw) no
theorem fits_14 {w : Nat} {kd : Int} (h : fitsK w kd = true) : kd ≠ 1 ∧ (kd = 4 → w = 0) := by
 unfold fitsK at h
 by_cases h0 : w = 0
 ·rw [if_pos h0] at h
  simp only [Bool.or_eq_true, decide_eq_true_eq] at h
  exact ⟨by omega, fun _ => h0⟩
 rw [if_neg h0] at h
 by_cases h1 : w = 1
 ·rw [if_pos h1] at h
  simp only [decide_eq_true_eq] at h
  exact ⟨by omega, fun e => by omega⟩
 rw [if_neg h1] at h
 by_cases h2 : w = 2
 ·rw [if_pos h2] at h
  simp only [decide_eq_true_eq] at h
  exact ⟨by omega, fun e => by omega⟩
 rw [if_neg h2] at h
 by_cases h3 : w = 3
 ·rw [if_pos h3] at h
  simp only [decide_eq_true_eq] at h
  exact ⟨by omega, fun e => by omega⟩
 rw [if_neg h3] at h
 by_cases h4 : w = 4
 ·rw [if_pos h4] at h
  simp only [Bool.or_eq_true, Bool.and_eq_true, decide_eq_true_eq] at h
  exact ⟨by omega, fun e => by omega⟩
 rw [if_neg h4] at h
 by_cases h6 : w = 6
 ·rw [if_pos h6] at h
  simp only [decide_eq_true_eq] at h
  exact ⟨by omega, fun e => by omega⟩
 rw [if_neg h6] at h
 simp only [Bool.and_eq_true, decide_eq_true_eq] at h
 exact ⟨by omega, fun e => by omega⟩
theorem chkK_le {f : Bool → Nat → Option (Pt × Nat)} {l : List Nd} (hf : ∀ w i q nx, f w i = some (q, nx) → nx ≤ l.length) :
  ∀ {ws : List Nat} {ks : List Int} {nx : Nat} {qs : List Pt} {nx' : Nat}, nx ≤ l.length → chkK f l ws ks nx = some (qs, nx') → nx' ≤ l.length
 | [], ks, nx, qs, nx', hn, h => by
  rw [chkK] at h
  ·cases h; exact hn
  ·simp
 | w :: ws, [], nx, qs, nx', hn, h => by
  rw [chkK] at h
  ·cases h; exact hn
  ·simp
 | w :: ws, k :: ks, nx, qs, nx', hn, h => by
  rw [chkK] at h
  split at h
  ·cases h
  ·cases hq : f (decide (w = 6)) nx with
   | none => rw [hq] at h; cases h
   | some p =>
    obtain ⟨q, n1⟩ := p
    rw [hq] at h
    dsimp only at h
    cases hr : chkK f l ws ks n1 with
    | none => rw [hr] at h; cases h
    | some r =>
     obtain ⟨qs1, n2⟩ := r
     rw [hr] at h
     cases h
     exact chkK_le hf (hf _ _ _ _ hq) hr
theorem chkN_le {l : List Nd} : ∀ {b : Nat} {loc wide : Bool} {i nx : Nat} {q : Pt}, chkN l b loc wide i = some (q, nx) → nx ≤ l.length := by
 intro b
 induction b with
 | zero => intro loc wide i nx q h; rw [chkN] at h; cases h
 | succ b ih =>
  intro loc wide i nx q h
  obtain ⟨c, ws, qs, hb, hi, _, _, hc, _, _⟩ := chkN_get h
  cases hb
  exact chkK_le (fun w i q nx h => ih h) Zf7 hc
def goI (f : Bool → Nat → Option (Pt × Nat)) (l : List Nd) (ws : List Nat) (ks : List Int) (i j nx : Nat) (pre : List Pt) : Prop :=
 j ≤ ks.length ∧ pre.length = j ∧ nx ≤ l.length ∧ chkK f l ws ks (i + 1) = (chkK f l (ws.drop j) (ks.drop j) nx).map fun r => (pre ++ r.1, r.2)
theorem goI.first {f : Bool → Nat → Option (Pt × Nat)} {l : List Nd} {ws : List Nat} {ks : List Int} {i : Nat} (hi : i < l.length) : goI f l ws ks i 0 (i + 1) [] :=
 ⟨Nat.zero_le _, rfl, hi, by
  rw [List.drop_zero, List.drop_zero]
  cases chkK f l ws ks (i + 1) <;> rfl⟩
section
variable {f : Bool → Nat → Option (Pt × Nat)} {l : List Nd} {ws : List Nat} {ks : List Int} {i j nx : Nat} {pre : List Pt}
theorem drop_at {α : Type} {l : List α} {j : Nat} {d : α} (h : j < l.length) : l.drop j = l.getD j d :: l.drop (j + 1) := by
 rw [List.drop_eq_getElem_cons h]
 simp [List.getD, h]
theorem goI.bad (h : goI f l ws ks i j nx pre) (hl : ws.length = ks.length) (hj : j < ks.length) (hb : ks.getD j 0 ≠ (nx : Int) ∨ l.length ≤ nx ∨ fitsK (ws.getD j 0) (l.getD nx nd0).kd = false) : chkK f l ws ks (i + 1) = none := by
 rw [h.2.2.2, drop_at (d := 0) Zf7, drop_at (d := (0 : Int)) hj, chkK, if_pos hb]
 rfl
theorem goI.nokid (h : goI f l ws ks i j nx pre) (hl : ws.length = ks.length) (hj : j < ks.length) (hb : ¬(ks.getD j 0 ≠ (nx : Int) ∨ l.length ≤ nx ∨ fitsK (ws.getD j 0) (l.getD nx nd0).kd = false)) (hf : f (decide (ws.getD j 0 = 6)) nx = none) : chkK f l ws ks (i + 1) = none := by
 rw [h.2.2.2, drop_at (d := 0) Zf7, drop_at (d := (0 : Int)) hj, chkK, if_neg hb, hf]
 rfl
theorem goI.kid (h : goI f l ws ks i j nx pre) (hl : ws.length = ks.length) (hj : j < ks.length) (hb : ¬(ks.getD j 0 ≠ (nx : Int) ∨ l.length ≤ nx ∨ fitsK (ws.getD j 0) (l.getD nx nd0).kd = false)) {q : Pt} {n1 : Nat} (hf : f (decide (ws.getD j 0 = 6)) nx = some (q, n1)) (hn : n1 ≤ l.length) :
  goI f l ws ks i (j + 1) n1 (pre ++ [q]) := by
 refine ⟨hj, by rw [List.length_append, h.2.1]; rfl, hn, ?_⟩
 rw [h.2.2.2, drop_at (d := 0) Zf7, drop_at (d := (0 : Int)) hj, chkK, if_neg hb, hf]
 dsimp only
 cases chkK f l (ws.drop (j + 1)) (ks.drop (j + 1)) n1 with
 | none => rfl
 | some r => simp
theorem goI.fin (h : goI f l ws ks i j nx pre) (hl : ws.length = ks.length) (hj : j = ks.length) : chkK f l ws ks (i + 1) = some (pre, nx) := by
 rw [h.2.2.2, List.drop_of_length_le Zf7, List.drop_of_length_le Zf7, chkK]
 ·simp
 ·simp
end
theorem chk_first {f : Bool → Nat → Option (Pt × Nat)} {l : List Nd} {ws : List Nat} {ks : List Int} {nx : Nat} {r : List Pt × Nat} (h : chkK f l ws ks nx = some r) (hl : ws.length = ks.length) (hk : 0 < ks.length) : ks.getD 0 0 = (nx : Int) := by
 cases ws with
 | nil => simp at hl; omega
 | cons w ws =>
  cases ks with
  | nil => simp at hk
  | cons k ks =>
   rw [chkK] at h
   split at h
   ·cases h
   ·rename_i hc
    simp only [not_or, Decidable.not_not] at hc
    exact hc.1
theorem hgtL_snoc (pre : List Pt) (q : Pt) : hgtL (pre ++ [q]) = max (hgtL pre) (hgtP q + 1) := by
 rw [hgtL_app, hgtL, hgtL]
 omega
theorem wsV_get {ws : List Nat} {j : Nat} (h : j < ws.length) : (wsV ws)[j]? = some (.int .i64 (ws.getD j 0 : Nat)) := by
 unfold wsV
 simp [List.getD, h]
theorem getD_memW {ws : List Nat} {j : Nat} (h : j < ws.length) : ws.getD j 0 ∈ ws := by
 simp only [List.getD, List.getElem?_eq_getElem h, Option.getD_some]
 exact List.getElem_mem h
theorem chkN_at {l : List Nd} {b : Nat} {loc wide : Bool} {i : Nat} {n : Nd} {ws : List Nat} (hi : i < l.length) (hn : l.getD i nd0 = n) (hk : kindsK n.kd n.ks.length = some ws) (hs : saidK n loc wide = true) :
  chkN l (b + 1) loc wide i = match chkK (chkN l b (loc || decide (n.kd = 4))) l ws n.ks (i + 1) with
   | none => none
   | some r => if lastK n r.1 = true then none else some (.mk n.kd n.ty n.tx n.nm n.pl r.1, r.2) := by
 subst hn
 rw [chkN, if_neg Zf7]
 dsimp only
 rw [hk]
 dsimp only
 rw [if_neg (by rw [hs]; decide)]
 cases chkK (chkN l b (loc || decide ((l.getD i nd0).kd = 4))) l ws (l.getD i nd0).ks (i + 1) with
 | none => rfl
 | some r => rfl
end Go.Proofs.YtbinaeemcidicaaGreatDoor
