/- Tokens that may be: their words are words, their numbers numbers. In plain Lean. No condition. -/
import Derived.Test.YtbinaeemcidicaaGreatZOrd
import Derived.Test.YtbinaeemcidicaaGreatZRF
import Derived.Test.YtbinaeemcidicaaGreatZQL
import Derived.Test.YtbinaeemcidicaaGreatZWV
set_option maxRecDepth 100000
set_option maxHeartbeats 16000000
namespace Go.Proofs.YtbinaeemcidicaaGreat
theorem num_kind (l : List UInt8) : (numS l).k ≠ 1 ∧ (numS l).k ≠ 4 := by
 unfold numS
 repeat' split
 all_goals first | exact ⟨fun e => absurd (show (0 : Int) = 1 from e) Zf7, fun e => absurd (show (0 : Int) = 4 from e) Zf7⟩ | exact ⟨fun e => absurd (show (3 : Int) = 1 from e) Zf7, fun e => absurd (show (3 : Int) = 4 from e) Zf7⟩ | exact ⟨fun e => absurd (show (2 : Int) = 1 from e) Zf7, fun e => absurd (show (2 : Int) = 4 from e) Zf7⟩
theorem tok_kind (l : List UInt8) : ((tokS l).k = 1 → leB (l.headD 0) = true) ∧ ((tokS l).k = 4 → leB (l.headD 0) = false) := by
 have hd : l.getD 0 0 = l.headD 0 := by cases l <;> rfl
 unfold tokS
 rw [hd]
 split
 ·rename_i h
  split
  ·exact ⟨fun e => absurd (show (0 : Int) = 1 from e) Zf7, fun e => absurd (show (0 : Int) = 4 from e) Zf7⟩
  ·exact ⟨fun _ => h, fun e => absurd (show (1 : Int) = 4 from e) Zf7⟩
 ·rename_i h
  split
  ·exact ⟨fun e => absurd e (num_kind l).1, fun e => absurd e (num_kind l).2⟩
  ·split
   ·exact ⟨fun e => absurd (show (0 : Int) = 1 from e) Zf7, fun e => absurd (show (0 : Int) = 4 from e) Zf7⟩
   ·exact ⟨fun e => absurd (show (4 : Int) = 1 from e) Zf7, fun _ => by simpa using h⟩
theorem slf_gd {t : Ti} (h : slfB (coreI t) = true) : GdT t ∧ (-2147483648 < t.x ∧ t.x ≤ 2147483647) ∧ t.t.length ≤ 64 := by
 have hs : slf t.t t.k t.x := slfB_iff.1 h
 have h64 := slf_len hs
 obtain ⟨_, _, _, ht⟩ := hs
 have hk := tok_kind t.t
 have hx := tok_x t.t
 rw [ht] at hk hx
 exact ⟨hk, ⟨by have := hx.1; dsimp only at this; omega, hx.2⟩, h64⟩
theorem right_gd {L : List Ti} (h : rightL L = true) : L.length ≤ 2048 ∧ ∀ t ∈ L, GdT t ∧ (-2147483648 < t.x ∧ t.x ≤ 2147483647) ∧ t.t.length ≤ 64 := by
 unfold rightL at h
 rw [Bool.and_eq_true, decide_eq_true_iff, List.all_eq_true] at h
 exact ⟨h.1, fun t ht => slf_gd (h.2 t ht)⟩
end Go.Proofs.YtbinaeemcidicaaGreat
namespace Go.Proofs.YtbinaeemcidicaaGreat
open Go.PB Go.RowKit
attribute [local irreducible] Go.Calls
def tokB (L : List Ti) : Bool := !L.any belowT && rightL L
theorem parseT_no {M : List Nat} {w0 w : World} {A : List Ent} {lv : Value} {L : List Ti} (hst : St M w0 w A) (hx : MxE A) (hv : RdX A lv L.length (tisC L)) (hlim : L.length ≤ 1000000) (hlen : ∀ t ∈ L, t.t.length ≤ 1000000) (hno : tokB L = false) :
  Calls Tryz.prog 11 #[lv] w (GivesS (fun _ : Unit => .tuple #[.agg [.slice none 0 0].toArray, .agg [.int .i64 2, .int .i64 0].toArray]) (fun _ => True) M w0 (fun _ => A)) := by
 obtain ⟨q, c, rfl⟩ := hv.len
 have hck : ∀ {M : List Nat} {w0 : World} {H : List Ent} (w : World), St M w0 w H → (∀ e ∈ A, e ∈ H) → Calls Tryz.prog 21 #[.slice q L.length c] w (Give (.int .i64 (if rightL L = true then 0 else 2)) w) := fun w hs hm =>
  check_ok _ L w (TiAt.of hs (hv.mono hm)) (hx.mx hs hm) hlim hlen
 have hct : ∀ {M : List Nat} {w0 : World} {H : List Ent} (w : World), St M w0 w H → (∀ e ∈ A, e ∈ H) → Calls Tryz.prog 22 #[.slice q L.length c, fnV 20 [] []] w (Give (.bool (L.any belowT)) w) := fun w hs hm =>
  contF_ok hs (hv.mono hm) below_pred hlim
 refine calls_of_WD (vs := [.slice q L.length c]) Tryz.func11 rfl Tryz.ntmps11 (Nat.le_of_ble_eq_true rfl) hst.fromHere ?_
 simp only [argL]
 unfold tokB at hno
 cases hr : rightL L with
 | false =>
  rw [hr, if_neg Zgn] at hck
  repeat' (first | (apply gL; first | (apply Wl.ev rfl rfl; exact Zev) | (refine lB 1 ?_; refine wl_box rfl rfl rfl rfl ?_; intro b1) | (refine lA 2 ?_; refine wl_alloc rfl rfl (zeroT rfl) ?_; intro b2) | (refine Zey ?_; refine wl_alloc rfl rfl (zeroT rfl) ?_; intro b3) | (refine Zgh ?_) | (refine lD 21 ?_; refine wl_call0 rfl rfl has21 rfl Zdk ?_) | apply Wl.nil | (refine Zbb ?_)) | (apply gQ; first | (apply Wq.ev rfl rfl; exact Zev)) | (apply lW; first | apply W.seq | ((show W _ _ _ _ _ _ (.inl .ret :: _) _ _); refine W.retccN rfl rfl (agT rfl) Zd (szT rfl) rfl (agT rfl) Zd (szT rfl) ?_; intro w hs) | apply W.region | (refine Zbh ?_)))
  all_goals first | exact GivesS.ofC hst hs () trivial rfl Zcz | contradiction | exact Zz
 | true =>
  rw [hr, if_pos rfl] at hck
  have hb : L.any belowT = true := by
   rw [hr, Bool.and_true] at hno
   simpa using hno
  rw [hb] at hct
  repeat' (first | (apply gL; first | (apply Wl.ev rfl rfl; exact Zev) | (refine lB 1 ?_; refine wl_box rfl rfl rfl rfl ?_; intro b1) | (refine lA 2 ?_; refine wl_alloc rfl rfl (zeroT rfl) ?_; intro b2) | (refine Zey ?_; refine wl_alloc rfl rfl (zeroT rfl) ?_; intro b3) | (refine Zgh ?_) | (refine lD 21 ?_; refine wl_call0 rfl rfl has21 rfl Zdk ?_) | (refine lD 22 ?_; refine wl_call0 rfl rfl has22 rfl Zd6 ?_) | apply Wl.nil) | (apply gQ; first | (apply Wq.ev rfl rfl; exact Zev)) | (apply lW; first | apply W.seq | ((show W _ _ _ _ _ _ (.inl .ret :: _) _ _); refine W.retccN rfl rfl (agT rfl) Zd (szT rfl) rfl (agT rfl) Zd (szT rfl) ?_; intro w hs) | apply W.region | (refine Zbh ?_)))
  all_goals first | exact GivesS.ofC hst hs () trivial rfl Zcz | contradiction | exact Zz
theorem tokens_ok {M : List Nat} {w0 w : World} {R : List Ent} {lv : Value} {L : List Ti} (hst : St M w0 w R) (hv : RdX R lv L.length (tisC L)) (hlim : L.length ≤ 1000000) (hlen : ∀ t ∈ L, t.t.length ≤ 1000000) :
  Calls Tryz.prog 9 #[lv] w (Give (.bool (tokB L)) w) := by
 have hv' := hv.ro
 have hr : ∀ {M : List Nat} {w0 : World} {H : List Ent} (w : World), St M w0 w H → (∀ e ∈ ro R, e ∈ H) → Calls Tryz.prog 17 #[lv] w (Give (.bool (rightL L)) w) := fun w hs hm => right_ok lv L w (TiAt.of hs (hv'.mono hm)) hlim hlen
 obtain ⟨p, c, rfl⟩ := hv.len
 refine give_of_W (vs := [.slice p L.length c]) Tryz.func9 rfl Tryz.ntmps9 (Nat.le_of_ble_eq_true rfl) hst.reads ?_
 simp only [argL]
 unfold tokB
 repeat' (first | (apply gL; first | (apply Wl.ev rfl rfl; exact Zev) | apply Wl.nil) | (apply gQ; first | (apply Wq.ev rfl rfl; exact Zev)) | (apply lW; first | apply W.seq | (refine W.loop (X := Nat) (fun j => [(0, .slice p L.length c), (5, .slice p L.length c), (6, .int .i64 (L.length : Nat)), (7, .int .i64 (j : Nat))]) (fun _ => ro R) (fun j => j ≤ L.length ∧ ∀ t ∈ L.take j, ¬t.a < 0) (fun j => L.length - j) 0 ⟨Nat.zero_le _, by simp⟩ Zm (List.Sublist.refl _) ?_) | apply W.region | apply W.block))
 rintro j ⟨hj, hall⟩
 by_cases hlt : j < L.length
 ·obtain ⟨b, off, c1, arr, et, fr, wr, he, hm, hcc, hgt⟩ := hv'.pos Zga
  cases he
  have g0 : ∀ (f : Nat) u, (tiC (L.getD j ti0))[f]? = some u → ∀ o, o = off + (j * 5 + f) → arr[o]? = some u := fun f u h => hgt _ _ (tisC_get hlt h)
  obtain ⟨⟨k, tx, x, a, n⟩, ht⟩ : ∃ t, L.getD j ti0 = t := ⟨_, rfl⟩
  rw [ht] at g0
  by_cases ha : a < 0
  ·have hany : L.any belowT = true := List.any_eq_true.2 ⟨_, (by rw [← ht]; simp [List.getD, hlt] : (⟨k, tx, x, a, n⟩ : Ti) ∈ L), decide_eq_true ha⟩
   rw [hany]
   repeat' (first | (apply gL; first | (apply Wl.ev rfl rfl; exact Zcm) | (refine lA 4 ?_; refine wl_alloc rfl rfl (zeroT rfl) ?_; intro b4) | (refine Zgh ?_) | apply Wl.nil) | (apply gQ; first | (apply Wq.ev rfl rfl; exact Zcm)) | (apply lW; first | apply W.seq | apply W.region | apply W.block | apply W.skip | (refine Zv ?_ ?_ <;> (intro h; try exact Za)) | (refine Zx ?_; intro w hs)))
   all_goals first | exact ret_eq hs rfl | contradiction | exact Zz
  ·repeat' (first | (apply gL; first | (apply Wl.ev rfl rfl; exact Zcm) | (refine lA 4 ?_; refine wl_alloc rfl rfl (zeroT rfl) ?_; intro b4) | (refine Zgh ?_) | apply Wl.nil) | (apply gQ; first | (apply Wq.ev rfl rfl; exact Zcm)) | (apply lW; first | apply W.seq | apply W.region | apply W.block | apply W.blk | apply W.skip | (refine Zv ?_ ?_ <;> (intro h; try exact Za))))
   all_goals first | exact W.again (j + 1) ⟨hlt, take_snoc_all (d := ti0) hlt hall (by rw [ht]; exact ha)⟩ Zga Zm (by repeat (first | exact List.Sublist.refl _ | apply List.Sublist.cons)) | contradiction | exact Zz
 ·obtain rfl : j = L.length := by omega
  rw [List.take_length] at hall
  have hany : L.any belowT = false := by
   cases h : L.any belowT with
   | false => rfl
   | true =>
    obtain ⟨t, h1, h2⟩ := List.any_eq_true.1 h
    exact absurd (of_decide_eq_true h2) (hall t h1)
  rw [hany]
  obtain ⟨y, hy⟩ : ∃ y, rightL L = y := ⟨_, rfl⟩
  rw [hy] at hr ⊢
  repeat' (first | (apply gL; first | (apply Wl.ev rfl rfl; exact Zev) | (refine lD 17 ?_; refine wl_call0 rfl rfl has17 rfl (fun w hs => hr w hs (fun e he => by repeat (first | exact he | apply List.Mem.tail))) ?_) | apply Wl.nil) | (apply gQ; first | (apply Wq.ev rfl rfl; exact Zev)) | (apply lW; first | apply W.seq | apply W.region | (refine Zbm ?_) | (refine Zv ?_ ?_ <;> (intro h; try exact Za)) | (refine Zx ?_; intro w hs)))
  all_goals first | exact ret_eq hs Zgn | exact ret_eq hs rfl | contradiction | exact Zz
end Go.Proofs.YtbinaeemcidicaaGreat
