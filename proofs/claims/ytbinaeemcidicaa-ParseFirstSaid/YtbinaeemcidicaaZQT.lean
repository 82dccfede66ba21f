/- Walks: the law ParseFirst. No condition but the cell that the library's search reads. -/
import Derived.Test.YtbinaeemcidicaaZQS
namespace Go.Proofs.Ytbinaeemcidicaa
open Go.PB Go.RowKit
attribute [local irreducible] Go.Calls
/-- tokens one behind the other -/
def IncL : List Ti → Prop
  | [] => True
  | t :: l => 1 ≤ t.t.length ∧ (∀ u ∈ l, t.a + (t.t.length : Nat) ≤ u.a) ∧ IncL l
theorem ch_inc {s : List UInt8} : ∀ {l : List Tk} {i : Nat}, Ch s i l → IncL (l.map tiOf)
  | [], _, _ => trivial
  | t :: l, i, h => by
    obtain ⟨_, q, h1, h2, _, h4, rfl, h6⟩ := h
    obtain ⟨m1, m2⟩ := tok_m (s.drop q)
    have hlen : ((s.drop q).take (tokS (s.drop q)).m).length = (tokS (s.drop q)).m := by rw [List.length_take]; omega
    refine ⟨?_, ?_, ch_inc h6⟩
    · show 1 ≤ ((s.drop q).take (tokS (s.drop q)).m).length
      rw [hlen]
      exact m2 h4
    · intro u hu
      obtain ⟨v, hv, rfl⟩ := List.mem_map.1 hu
      have := ch_at h6 v hv
      show ((q : Nat) : Int) + (((s.drop q).take (tokS (s.drop q)).m).length : Nat) ≤ ((v.at_ : Nat) : Int)
      rw [hlen]
      omega
theorem inc_lt : ∀ {L : List Ti} {i j : Nat}, IncL L → i < j → j < L.length → (L.getD i ti0).a + ((L.getD i ti0).t.length : Nat) ≤ (L.getD j ti0).a ∧ 1 ≤ (L.getD i ti0).t.length
  | [], i, j, _, _, hj => by simp at hj
  | t :: l, 0, j + 1, h, _, hj => by
    refine ⟨h.2.1 _ ?_, h.1⟩
    have hj' : j < l.length := by simpa using hj
    simp [List.getD, hj']
  | t :: l, i + 1, j + 1, h, hij, hj => inc_lt (L := l) h.2.2 (by omega) (by simpa using hj)
theorem inc_len : ∀ {L : List Ti} {i : Nat}, IncL L → i < L.length → 1 ≤ (L.getD i ti0).t.length
  | [], i, _, hj => by simp at hj
  | t :: l, 0, h, _ => h.1
  | t :: l, i + 1, h, hj => inc_len (L := l) h.2.2 (by simpa using hj)
theorem lex_end {s : List UInt8} {T : List Tk} {p : Nat} (h : lexS s = (T, 0, p)) {i : Nat} (hi : i < (T.map tiOf).length) : 0 ≤ ((T.map tiOf).getD i ti0).a ∧ ((T.map tiOf).getD i ti0).a + (((T.map tiOf).getD i ti0).t.length : Nat) ≤ 8192 := by
  obtain ⟨h1, h2, h3⟩ := ch_of_lexS h
  have hm : (T.map tiOf).getD i ti0 ∈ T.map tiOf := by simp only [List.getD, List.getElem?_eq_getElem hi, Option.getD_some]; exact List.getElem_mem hi
  obtain ⟨u, hu, hue⟩ := List.mem_map.1 hm
  obtain ⟨q, _, hq, rfl⟩ := ch_tok h2 u hu
  rw [← hue]
  show 0 ≤ ((q : Nat) : Int) ∧ ((q : Nat) : Int) + (((s.drop q).take (tokS (s.drop q)).m).length : Nat) ≤ 8192
  rw [List.length_take, List.length_drop]
  omega
theorem wrap_end {x : Int} (h : 0 ≤ x ∧ x ≤ 8192) : IntKind.i64.wrap x = x := wrap64_in (by omega)
theorem spot_cases (L : List Ti) (ps : List Pt) (l' : List Ti) : spotO L (some ps) l' = (0, 0) ∨ (spotO L (some ps) l').1 = 3 := by
  unfold spotO
  dsimp only
  cases (putP (.mk 1 [] [] 0 0 ps) 0 0 none).2 with
  | none => exact .inl rfl
  | some y => exact .inr rfl
theorem first_facts {F : Nat} {L l' : List Ti} (h : pF F (.shad []) L = some (none, l')) :
    (∃ a, a < L.length ∧ spotO L none l' = (220, (L.getD a ti0).a) ∧ (∃ g l2, pF g (.shad []) (L.take (a + 1)) = some (none, l2) ∧ spotO (L.take (a + 1)) none l2 = (220, (L.getD a ti0).a)) ∧
      ∀ G o r, pF G (.shad []) (L.take a) = some (o, r) → spotO (L.take a) o r = (0, 0) ∨ (spotO (L.take a) o r).1 = 3 ∨ 0 < a ∧ spotO (L.take a) o r = (220, IntKind.i64.wrap ((L.getD (a - 1) ti0).a + ((L.getD (a - 1) ti0).t.length : Nat)))) ∨
    0 < L.length ∧ spotO L none l' = (220, IntKind.i64.wrap ((L.getD (L.length - 1) ti0).a + ((L.getD (L.length - 1) ti0).t.length : Nat))) := by
  cases l' with
  | nil =>
    refine .inr ?_
    have h0 : 0 < L.length := by
      cases L with
      | nil => cases (shad_nil h).1
      | cons t l => exact Nat.succ_pos _
    refine ⟨h0, ?_⟩
    unfold spotO endP
    dsimp only
    rw [List.length_nil, Nat.sub_zero, if_neg (Nat.lt_irrefl _), if_pos h0]
  | cons t rest =>
    refine .inl ⟨L.length - (t :: rest).length, ?_⟩
    have hle := (pF_good F (.shad []) L _ _ h).1.length_le
    have hlt : L.length - (t :: rest).length < L.length := by simp only [List.length_cons] at *; omega
    obtain ⟨a, ha⟩ : ∃ a, L.length - (t :: rest).length = a := ⟨_, rfl⟩
    have hk : a + (t :: rest).length = L.length := by omega
    rw [ha] at hlt ⊢
    obtain ⟨⟨g, hg⟩, h2⟩ := firstB_ok (G := 0) (o := none) (r := []) h hk
    refine ⟨hlt, ?_, ⟨g, [t], hg, ?_⟩, ?_⟩
    · unfold spotO endP
      dsimp only
      rw [ha, if_pos hlt]
    · unfold spotO endP
      dsimp only
      have hl : (L.take (a + 1)).length = a + 1 := by rw [List.length_take]; omega
      rw [hl, show a + 1 - [t].length = a from rfl, if_pos (Nat.lt_succ_self a)]
      have : (L.take (a + 1)).getD a ti0 = L.getD a ti0 := by simp [List.getD]
      rw [this]
    · intro G o r h'
      cases o with
      | some ps =>
        rcases spot_cases (L.take a) ps r with e | e
        · exact .inl e
        · exact .inr (.inl e)
      | none =>
        obtain rfl := (firstB_ok h hk).2 h' rfl
        have hl : (L.take a).length = a := by rw [List.length_take]; omega
        refine .inr (.inr ?_)
        cases a with
        | zero => cases (shad_nil h').1
        | succ j =>
          refine ⟨Nat.succ_pos _, ?_⟩
          unfold spotO endP
          dsimp only
          rw [hl, List.length_nil, Nat.sub_zero, if_neg (Nat.lt_irrefl _), if_pos (Nat.succ_pos _), show j + 1 - 1 = j from rfl]
          have : (L.take (j + 1)).getD j ti0 = L.getD j ti0 := by simp [List.getD]
          rw [this]
end Go.Proofs.Ytbinaeemcidicaa
