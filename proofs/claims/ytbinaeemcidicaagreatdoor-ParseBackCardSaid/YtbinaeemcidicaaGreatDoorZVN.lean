/- Each node stands right behind what stands ahead of it: in plain Lean. No condition. -/
import Derived.Test.YtbinaeemcidicaaGreatDoorZCn
import Derived.Test.YtbinaeemcidicaaGreatDoorZQG
set_option maxHeartbeats 16000000
namespace Go.Proofs.YtbinaeemcidicaaGreatDoor
def OrdN (i : Nat) (ks : List Int) : Prop := ∀ k, k < ks.length → (i : Int) < ks.getD k 0 ∧ (0 < k → ks.getD (k - 1) 0 < ks.getD k 0) ∧ (k = 0 → ks.getD k 0 = (i : Int) + 1)
theorem kids_len : ∀ (l : List Pt) (b : Nat), (kidsA b l).length = l.length
 | [], b => by rw [kidsA]; rfl
 | p :: l, b => by rw [kidsA, List.length_cons, List.length_cons, kids_len l]
theorem kids_get : ∀ (l : List Pt) (b k : Nat), k < l.length → (kidsA b l).getD k 0 = ((b + cntL (l.take k) : Nat) : Int)
 | [], b, k, h => by simp at h
 | p :: l, b, 0, h => by
  rw [kidsA, List.take_zero, cntL]
  rfl
 | p :: l, b, k + 1, h => by
  rw [kidsA, List.take_succ_cons, cntL, List.getD_cons_succ, kids_get l _ k Zl3]
  omega
theorem cnt_take : ∀ (l : List Pt) (k : Nat), k < l.length → cntL (l.take k) < cntL (l.take (k + 1))
 | [], k, h => by simp at h
 | p :: l, 0, h => by
  have := cntP_pos p
  rw [List.take_zero, List.take_succ_cons, List.take_zero, cntL, cntL, cntL]
  omega
 | p :: l, k + 1, h => by
  have := cnt_take l k Zl3
  rw [List.take_succ_cons, List.take_succ_cons, cntL, cntL]
  omega
theorem kids_ord (l : List Pt) (b : Nat) : OrdN b (kidsA (b + 1) l) := fun k hk => by
 rw [kids_len] at hk
 rw [kids_get l (b + 1) k hk]
 refine ⟨by omega, fun h => ?_, fun h => ?_⟩
 ·obtain ⟨j, rfl⟩ : ∃ j, k = j + 1 := ⟨k - 1, by omega⟩
  rw [show j + 1 - 1 = j from rfl, kids_get l (b + 1) j Zf7]
  have := cnt_take l j Zf7
  omega
 ·subst h
  rw [List.take_zero, cntL]
  omega
abbrev ndZ : Nd := ⟨0, [], [], 0, [], 0⟩
mutual
theorem flt_ord : ∀ (p : Pt) (b j : Nat), j < (fltP p b).length → OrdN (b + j) ((fltP p b).getD j ndZ).ks
 | .mk kd ty tx nm pl ks, b, 0, _ => by
  rw [fltP]
  exact kids_ord ks b
 | .mk kd ty tx nm pl ks, b, j + 1, h => by
  rw [fltP] at h ⊢
  have := flt_ordL ks (b + 1) j Zl3
  rw [show b + (j + 1) = b + 1 + j by omega]
  exact this
theorem flt_ordL : ∀ (l : List Pt) (b j : Nat), j < (fltL l b).length → OrdN (b + j) ((fltL l b).getD j ndZ).ks
 | [], b, j, h => by rw [fltL] at h; simp at h
 | p :: l, b, j, h => by
  rw [fltL] at h ⊢
  have hl := flt_len p b
  by_cases hj : j < cntP p
  ·have := flt_ord p b j Zf7
   rw [show (fltP p b ++ fltL l (b + cntP p)).getD j ndZ = (fltP p b).getD j ndZ by simp only [List.getD]; rw [List.getElem?_append_left Zf7]]
   exact this
  ·have := flt_ordL l (b + cntP p) (j - cntP p) (by rw [List.length_append] at h; omega)
   rw [show (fltP p b ++ fltL l (b + cntP p)).getD j ndZ = (fltL l (b + cntP p)).getD (j - cntP p) ndZ by simp only [List.getD]; rw [List.getElem?_append_right Zf7, hl]]
   rw [show b + j = b + cntP p + (j - cntP p) by omega]
   exact this
end
def sumK : List Nd → Nat
 | [] => 0
 | n :: l => n.ks.length + sumK l
theorem sumK_app : ∀ a b : List Nd, sumK (a ++ b) = sumK a + sumK b
 | [], b => by rw [sumK, List.nil_append, Nat.zero_add]
 | n :: a, b => by rw [List.cons_append, sumK, sumK, sumK_app a b, Nat.add_assoc]
mutual
theorem flt_sum : ∀ (p : Pt) (b : Nat), sumK (fltP p b) + 1 = cntP p
 | .mk kd ty tx nm pl ks, b => by
  have := flt_sumL ks (b + 1)
  rw [fltP, sumK, cntP, kids_len]
  omega
theorem flt_sumL : ∀ (l : List Pt) (b : Nat), sumK (fltL l b) + l.length = cntL l
 | [], b => by rw [fltL, cntL, sumK]; rfl
 | p :: l, b => by
  have h1 := flt_sum p b
  have h2 := flt_sumL l (b + cntP p)
  rw [fltL, cntL, sumK_app, List.length_cons]
  omega
end
end Go.Proofs.YtbinaeemcidicaaGreatDoor
namespace Go.Proofs.YtbinaeemcidicaaGreatDoor
open Go.PB Go.RowKit
attribute [local irreducible] Go.Calls
structure Nv where
 nd : Nd
 kv : Value
def nvC (y : Nv) : List Value := [.int .i64 y.nd.kd, st y.nd.ty, st y.nd.tx, .int .i32 y.nd.nm, y.kv, .int .i64 y.nd.pl]
def nvsC (l : List Nv) : List Value := l.flatMap nvC
abbrev nv0 : Nv := ⟨ndZ, .slice none 0 0⟩
theorem nvsC_get {l : List Nv} {j i : Nat} {v : Value} (hj : j < l.length) (h : (nvC (l.getD j nv0))[i]? = some v) : (nvsC l)[j * 6 + i]? = some v := flat_get (f := nvC) (c := 6) (fun _ => rfl) hj h
def RdT (R : List Ent) (v : Value) (l : List Nv) : Prop := RdX R v l.length (nvsC l) ∧ ∀ y ∈ l, RdX R y.kv y.nd.ks.length (intV y.nd.ks)
theorem RdT.mono {R R' : List Ent} {v : Value} {l : List Nv} (h : RdT R v l) (hR : ∀ p ∈ R, p ∈ R') : RdT R' v l := ⟨h.1.mono hR, fun y hy => (h.2 y hy).mono hR⟩
theorem getD_memN {l : List Nv} {j : Nat} (h : j < l.length) : l.getD j nv0 ∈ l := by
 simp only [List.getD, List.getElem?_eq_getElem h, Option.getD_some]
 exact List.getElem_mem h
def plaV (x : Nk) : Nv := ⟨x.1, ownV x.1.ks.length x.2⟩
theorem nvsC_cons (x : Nv) (b : List Nv) : nvsC (x :: b) = nvC x ++ nvsC b := by unfold nvsC; rw [List.flatMap_cons]
theorem nds_pla : ∀ l : List Nk, ndsC l = nvsC (l.map plaV)
 | [] => rfl
 | x :: l => by
  rw [ndsC_cons, List.map_cons, nvsC_cons, nds_pla l]
  rfl
theorem RdT_nk {H : List Ent} {N : List Nk} {o : Ow} (ho : ownOk N.length 6 (ndsC N) o) (hk : ndKok N) (h1 : ∀ p ∈ ndKH N, p ∈ H) (h2 : ∀ p ∈ ownH 47 o, p ∈ H) : RdT H (ownV N.length o) (N.map plaV) := by
 refine ⟨?_, fun y hy => ?_⟩
 ·rw [List.length_map, ← nds_pla]
  exact RdX.own (e := 47) ho h2
 ·obtain ⟨x, hx, rfl⟩ := List.mem_map.1 hy
  exact RdX.own (hk x hx) (fun p hp => h1 p (List.mem_flatMap.2 ⟨_, hx, hp⟩))
end Go.Proofs.YtbinaeemcidicaaGreatDoor
