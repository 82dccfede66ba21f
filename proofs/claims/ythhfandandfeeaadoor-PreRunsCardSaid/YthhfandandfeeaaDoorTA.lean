/- Rows of tokens: what may be read in them. No condition. -/
import Derived.Test.YthhfandandfeeaaDoorL7
import Derived.Test.YthhfandandfeeaaDoorEB
namespace Go.Proofs.YthhfandandfeeaaDoor
open Go.PB Go.RowKit
attribute [local irreducible] Go.Calls
instance tkDec : DecidableEq Tk := fun a b => decidable_of_iff (a.k = b.k ∧ a.t = b.t ∧ a.x = b.x ∧ a.at_ = b.at_ ∧ a.ln = b.ln) (by cases a; cases b; simp)
theorem tksC_get : ∀ {l : List Tk} {j i : Nat} {v : Value}, j < l.length → (tkC (l.getD j ⟨0, [], 0, 0, 0⟩))[i]? = some v → (tksC l)[j * 5 + i]? = some v
  | [], j, _, _, h, _ => by simp at h
  | t :: l, 0, i, v, _, h => by
    rw [show tksC (t :: l) = tkC t ++ tksC l from rfl, Nat.zero_mul, Nat.zero_add]
    simp only [List.getD_cons_zero] at h
    have hi : i < (tkC t).length := by
      obtain ⟨h, _⟩ := List.getElem?_eq_some_iff.1 h
      exact h
    rw [List.getElem?_append_left hi]
    exact h
  | t :: l, j + 1, i, v, h, h2 => by
    rw [show tksC (t :: l) = tkC t ++ tksC l from rfl]
    have h5 : (tkC t).length = 5 := rfl
    rw [List.getElem?_append_right (by omega), show (j + 1) * 5 + i - (tkC t).length = j * 5 + i by omega]
    exact tksC_get (l := l) (by simpa using h) (by simpa using h2)
theorem own_get {n sz : Nat} {xs : List Value} {b cap : Nat} {cur : Array Value} (h : ownOk n sz xs (some (b, cap, cur))) {j : Nat} {v : Value} (hv : xs[j]? = some v) : cur[j]? = some v := by
  obtain ⟨_, _, _, h4, _⟩ := h
  rw [← h4, List.getElem?_take] at hv
  split at hv
  · simpa using hv
  · cases hv
theorem own_some {n sz : Nat} {xs : List Value} {o : Ow} (h : ownOk n sz xs o) (hn : 0 < n) : ∃ b cap cur, o = some (b, cap, cur) ∧ n ≤ cap ∧ cur.size = cap * sz ∧ ∀ (j : Nat) (v : Value), xs[j]? = some v → cur[j]? = some v := by
  cases o with
  | none => have := h.1; omega
  | some o =>
    obtain ⟨b, cap, cur⟩ := o
    exact ⟨b, cap, cur, rfl, h.1, h.2.2.1, fun j v hv => own_get h hv⟩
theorem ownH_none (e : TypeId) : ownH e none = [] := rfl
theorem ownH_some (e : TypeId) (b cap : Nat) (cur : Array Value) : ownH e (some (b, cap, cur)) = [⟨b, true, .cells cur e (0, 0)⟩] := rfl
theorem ownV_some (n b cap : Nat) (cur : Array Value) : ownV n (some (b, cap, cur)) = .slice (some ⟨b, 0, none⟩) n cap := rfl
end Go.Proofs.YthhfandandfeeaaDoor
