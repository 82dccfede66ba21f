/- Walks: Parse of a text's tokens; whether the layer does anything. No condition but the cell that the library's search reads. -/
import Derived.Test.YtbinaeemcidicaaGreatZQL
import Derived.Test.YtbinaeemcidicaaGreatZCn
set_option maxHeartbeats 16000000
namespace Go.PB
open Go.RowKit
section
variable {P : Program} {M : List Nat} {w0 : World} {n : Nat} {D : List Deferred} {L : List (Nat × Value)} {H : List Ent}
theorem ev_sliceHi {t : TypeId} {x : Operand} {oty e : TypeId} {sz m c k : Nat} {b : Addr} {hi : Operand} {kk : IntKind} {j : Int} (ht : Sl P t e) (hs : Sz P e sz) (hx : evo L x = some (.slice (some b) m c)) (hhi : evo L hi = some (.int kk j)) (hj : j = (k : Nat)) (hb : k ≤ c) :
  Ev P M w0 n D L H (.slice t x none (some hi) none) oty (.slice (some b) k c) := by
 have ht' : P.underlying t = some (.slice e) := ht
 subst hj
 unfold Ev
 intro a w hf _ dst pos after g
 have h1 : (0 : Int) ≤ ((k : Nat) : Int) := by omega
 have h2 : ((k : Nat) : Int) ≤ (c : Nat) := by omega
 simp [execOp, hf.eval hx, hf.eval hhi, Instr.sliceAt, Instr.slice, Instr.sliceBounds, Instr.sliceBound, asIntOf, run_underlying ht', h1, hb, run_sizeOf hs, Addr.add]
end
end Go.PB
namespace Go.Proofs.YtbinaeemcidicaaGreat
open Go.PB Go.RowKit
attribute [local irreducible] Go.Calls
theorem rawS_pos {n : Int} (h : 0 ≤ n) : 0 ≤ rawS n ∧ rawS n ≤ 2147483647 := ⟨by unfold rawS; omega, (rawS_range n).2⟩
theorem parseS_pos {l : List UInt8} (h : l.head? ≠ some 45) : 0 ≤ (parseS l).1 ∧ (parseS l).1 ≤ 2147483647 := by
 unfold parseS
 split
 ·exact ⟨Int.le_refl _, by decide⟩
 ·dsimp only
  split
  ·exact ⟨Int.le_refl _, by decide⟩
  ·split
   ·exact ⟨Int.le_refl _, by decide⟩
   ·first | exact rawS_pos Zga | (rw [if_neg h]; exact rawS_pos Zga)
theorem tok_x (l : List UInt8) : 0 ≤ (tokS l).x ∧ (tokS l).x ≤ 2147483647 := by
 have z : (0 : Int) ≤ 0 ∧ (0 : Int) ≤ 2147483647 := by decide
 unfold tokS
 split
 ·split <;> exact z
 ·rename_i h0
  split
  ·rename_i h1
   unfold numS
   split
   ·exact z
   ·split
    ·exact z
    ·split
     ·refine parseS_pos fun e => ?_
      cases l with
      | nil => simp at e
      | cons c l =>
       have : c = 45 := by
        cases hn : numN (c :: l) with
        | zero => rw [hn] at e; simp at e
        | succ k => rw [hn] at e; simpa using e
       subst this
       revert h1
       simp [dgB]
       try decide
     ·split
      ·exact z
      ·exact rawS_pos Zga
  ·split <;> exact z
theorem tisC_app (a b : List Ti) : tisC (a ++ b) = tisC a ++ tisC b := by unfold tisC; rw [List.flatMap_append]
theorem tisC_take {L : List Ti} {k j : Nat} {u : Value} (h : (tisC (L.take k))[j]? = some u) : (tisC L)[j]? = some u := by
 obtain ⟨hi, _⟩ := List.getElem?_eq_some_iff.1 h
 conv => lhs; rw [← List.take_append_drop k L, tisC_app, List.getElem?_append_left hi]
 exact h
theorem mx_ent {w : World} (h : Mx w) : ∃ arr et fr m, w.heap[0]? = some (.cells arr et fr) ∧ arr[0]? = some (.int .i64 m) := by
 obtain ⟨m, h⟩ := h
 unfold World.cell? at h
 split at h
 ·rename_i c et fr hc
  exact ⟨c, et, fr, m, hc, by simpa using h⟩
 ·cases h
end Go.Proofs.YtbinaeemcidicaaGreat
namespace Go.Proofs.YtbinaeemcidicaaGreat
open Go.PB Go.RowKit
attribute [local irreducible] Go.Calls
end Go.Proofs.YtbinaeemcidicaaGreat
namespace Go.Proofs.YtbinaeemcidicaaGreat
def OrdN (i : Nat) (ks : List Int) : Prop := ∀ k, k < ks.length → (i : Int) < ks.getD k 0 ∧ (0 < k → ks.getD (k - 1) 0 < ks.getD k 0) ∧ (k = 0 → ks.getD k 0 = (i : Int) + 1)
theorem kids_len : ∀ (l : List Pt) (b : Nat), (kidsA b l).length = l.length
 | [], b => by rw [kidsA]; rfl
 | p :: l, b => by rw [kidsA, List.length_cons, List.length_cons, kids_len l]
theorem kids_get : ∀ (l : List Pt) (b k : Nat), k < l.length → (kidsA b l).getD k 0 = ((b + cntL (l.take k) : Nat) : Int)
 | [], b, k, h => by simp at h
 | p :: l, b, 0, h => by
  rw [kidsA, List.take_zero, cntL]
  rfl
 | p :: l, b, k + 1, h => by
  rw [kidsA, List.take_succ_cons, cntL, List.getD_cons_succ, kids_get l _ k Zm5]
  omega
theorem cnt_take : ∀ (l : List Pt) (k : Nat), k < l.length → cntL (l.take k) < cntL (l.take (k + 1))
 | [], k, h => by simp at h
 | p :: l, 0, h => by
  have := cntP_pos p
  rw [List.take_zero, List.take_succ_cons, List.take_zero, cntL, cntL, cntL]
  omega
 | p :: l, k + 1, h => by
  have := cnt_take l k Zm5
  rw [List.take_succ_cons, List.take_succ_cons, cntL, cntL]
  omega
theorem kids_ord (l : List Pt) (b : Nat) : OrdN b (kidsA (b + 1) l) := fun k hk => by
 rw [kids_len] at hk
 rw [kids_get l (b + 1) k hk]
 refine ⟨by omega, fun h => ?_, fun h => ?_⟩
 ·obtain ⟨j, rfl⟩ : ∃ j, k = j + 1 := ⟨k - 1, by omega⟩
  rw [show j + 1 - 1 = j from rfl, kids_get l (b + 1) j Zga]
  have := cnt_take l j Zga
  omega
 ·subst h
  rw [List.take_zero, cntL]
  omega
abbrev ndZ : Nd := ⟨0, [], [], 0, [], 0⟩
mutual
theorem flt_ord : ∀ (p : Pt) (b j : Nat), j < (fltP p b).length → OrdN (b + j) ((fltP p b).getD j ndZ).ks
 | .mk kd ty tx nm pl ks, b, 0, _ => by
  rw [fltP]
  exact kids_ord ks b
 | .mk kd ty tx nm pl ks, b, j + 1, h => by
  rw [fltP] at h ⊢
  have := flt_ordL ks (b + 1) j Zm5
  rw [show b + (j + 1) = b + 1 + j by omega]
  exact this
theorem flt_ordL : ∀ (l : List Pt) (b j : Nat), j < (fltL l b).length → OrdN (b + j) ((fltL l b).getD j ndZ).ks
 | [], b, j, h => by rw [fltL] at h; simp at h
 | p :: l, b, j, h => by
  rw [fltL] at h ⊢
  have hl := flt_len p b
  by_cases hj : j < cntP p
  ·have := flt_ord p b j Zga
   rw [show (fltP p b ++ fltL l (b + cntP p)).getD j ndZ = (fltP p b).getD j ndZ by simp only [List.getD]; rw [List.getElem?_append_left Zga]]
   exact this
  ·have := flt_ordL l (b + cntP p) (j - cntP p) (by rw [List.length_append] at h; omega)
   rw [show (fltP p b ++ fltL l (b + cntP p)).getD j ndZ = (fltL l (b + cntP p)).getD (j - cntP p) ndZ by simp only [List.getD]; rw [List.getElem?_append_right Zga, hl]]
   rw [show b + j = b + cntP p + (j - cntP p) by omega]
   exact this
end
def sumK : List Nd → Nat
 | [] => 0
 | n :: l => n.ks.length + sumK l
theorem sumK_app : ∀ a b : List Nd, sumK (a ++ b) = sumK a + sumK b
 | [], b => by rw [sumK, List.nil_append, Nat.zero_add]
 | n :: a, b => by rw [List.cons_append, sumK, sumK, sumK_app a b, Nat.add_assoc]
mutual
theorem flt_sum : ∀ (p : Pt) (b : Nat), sumK (fltP p b) + 1 = cntP p
 | .mk kd ty tx nm pl ks, b => by
  have := flt_sumL ks (b + 1)
  rw [fltP, sumK, cntP, kids_len]
  omega
theorem flt_sumL : ∀ (l : List Pt) (b : Nat), sumK (fltL l b) + l.length = cntL l
 | [], b => by rw [fltL, cntL, sumK]; rfl
 | p :: l, b => by
  have h1 := flt_sum p b
  have h2 := flt_sumL l (b + cntP p)
  rw [fltL, cntL, sumK_app, List.length_cons]
  omega
end
end Go.Proofs.YtbinaeemcidicaaGreat
