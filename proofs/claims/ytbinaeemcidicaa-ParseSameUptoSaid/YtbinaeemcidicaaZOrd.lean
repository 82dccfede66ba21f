/- Each node stands right behind what stands ahead of it: in plain Lean. No condition. -/
import Derived.Test.YtbinaeemcidicaaZInv
namespace Go.Proofs.Ytbinaeemcidicaa
/-- a node's kids: behind it, in order, the first right behind it -/
def OrdN (i : Nat) (ks : List Int) : Prop := ∀ k, k < ks.length → (i : Int) < ks.getD k 0 ∧ (0 < k → ks.getD (k - 1) 0 < ks.getD k 0) ∧ (k = 0 → ks.getD k 0 = (i : Int) + 1)
theorem kids_len : ∀ (l : List Pt) (b : Nat), (kidsA b l).length = l.length
  | [], b => by rw [kidsA]; rfl
  | p :: l, b => by rw [kidsA, List.length_cons, List.length_cons, kids_len l]
theorem kids_get : ∀ (l : List Pt) (b k : Nat), k < l.length → (kidsA b l).getD k 0 = ((b + cntL (l.take k) : Nat) : Int)
  | [], b, k, h => by simp at h
  | p :: l, b, 0, h => by
    rw [kidsA, List.take_zero, cntL]
    rfl
  | p :: l, b, k + 1, h => by
    rw [kidsA, List.take_succ_cons, cntL, List.getD_cons_succ, kids_get l _ k (by simpa using h)]
    omega
theorem cnt_take : ∀ (l : List Pt) (k : Nat), k < l.length → cntL (l.take k) < cntL (l.take (k + 1))
  | [], k, h => by simp at h
  | p :: l, 0, h => by
    have := cntP_pos p
    rw [List.take_zero, List.take_succ_cons, List.take_zero, cntL, cntL, cntL]
    omega
  | p :: l, k + 1, h => by
    have := cnt_take l k (by simpa using h)
    rw [List.take_succ_cons, List.take_succ_cons, cntL, cntL]
    omega
theorem kids_ord (l : List Pt) (b : Nat) : OrdN b (kidsA (b + 1) l) := fun k hk => by
  rw [kids_len] at hk
  rw [kids_get l (b + 1) k hk]
  refine ⟨by omega, fun h => ?_, fun h => ?_⟩
  · obtain ⟨j, rfl⟩ : ∃ j, k = j + 1 := ⟨k - 1, by omega⟩
    rw [show j + 1 - 1 = j from rfl, kids_get l (b + 1) j (by omega)]
    have := cnt_take l j (by omega)
    omega
  · subst h
    rw [List.take_zero, cntL]
    omega
abbrev ndZ : Nd := ⟨0, [], [], 0, [], 0⟩
mutual
theorem flt_ord : ∀ (p : Pt) (b j : Nat), j < (fltP p b).length → OrdN (b + j) ((fltP p b).getD j ndZ).ks
  | .mk kd ty tx nm pl ks, b, 0, _ => by
    rw [fltP]
    exact kids_ord ks b
  | .mk kd ty tx nm pl ks, b, j + 1, h => by
    rw [fltP] at h ⊢
    have := flt_ordL ks (b + 1) j (by simpa using h)
    rw [show b + (j + 1) = b + 1 + j by omega]
    exact this
theorem flt_ordL : ∀ (l : List Pt) (b j : Nat), j < (fltL l b).length → OrdN (b + j) ((fltL l b).getD j ndZ).ks
  | [], b, j, h => by rw [fltL] at h; simp at h
  | p :: l, b, j, h => by
    rw [fltL] at h ⊢
    have hl := flt_len p b
    by_cases hj : j < cntP p
    · have := flt_ord p b j (by omega)
      rw [show (fltP p b ++ fltL l (b + cntP p)).getD j ndZ = (fltP p b).getD j ndZ by simp only [List.getD]; rw [List.getElem?_append_left (by omega)]]
      exact this
    · have := flt_ordL l (b + cntP p) (j - cntP p) (by rw [List.length_append] at h; omega)
      rw [show (fltP p b ++ fltL l (b + cntP p)).getD j ndZ = (fltL l (b + cntP p)).getD (j - cntP p) ndZ by simp only [List.getD]; rw [List.getElem?_append_right (by omega), hl]]
      rw [show b + j = b + cntP p + (j - cntP p) by omega]
      exact this
end
def sumK : List Nd → Nat
  | [] => 0
  | n :: l => n.ks.length + sumK l
theorem sumK_app : ∀ a b : List Nd, sumK (a ++ b) = sumK a + sumK b
  | [], b => by rw [sumK, List.nil_append, Nat.zero_add]
  | n :: a, b => by rw [List.cons_append, sumK, sumK, sumK_app a b, Nat.add_assoc]
mutual
theorem flt_sum : ∀ (p : Pt) (b : Nat), sumK (fltP p b) + 1 = cntP p
  | .mk kd ty tx nm pl ks, b => by
    have := flt_sumL ks (b + 1)
    rw [fltP, sumK, cntP, kids_len]
    omega
theorem flt_sumL : ∀ (l : List Pt) (b : Nat), sumK (fltL l b) + l.length = cntL l
  | [], b => by rw [fltL, cntL, sumK]; rfl
  | p :: l, b => by
    have h1 := flt_sum p b
    have h2 := flt_sumL l (b + cntP p)
    rw [fltL, cntL, sumK_app, List.length_cons]
    omega
end
end Go.Proofs.Ytbinaeemcidicaa
