/- Texts of scripts, there and back; where a text is wrong: in plain Lean. No condition. -/
import Derived.Test.YtdnicbbandbdbaaDoorQ5
namespace Go.Proofs.YtdnicbbandbdbaaDoor
theorem drop_fore {l r : List UInt8} : (l ++ 10 :: r).drop (l.length + 1) = r := by
  rw [List.drop_append]
  simp
theorem fore_split {t : List UInt8} (h : (fore 10 t).length < t.length) : ∃ l r, t = l ++ 10 :: r ∧ 10 ∉ l := ⟨_, _, fore_cut 10 t h, fore_not 10 t⟩
theorem scan_line {s s' : Sn} {l r : List UInt8} (h : 10 ∉ l) (hn : lnS s l = some s') : scanS s (l ++ 10 :: r) = scanS s' r := by
  rw [scan_next (s' := s') (by rw [fore_app h]; simp) (by rw [fore_app h]; exact hn), fore_app h, drop_fore]
theorem scan_cmds : ∀ (l : List Cl) (a : Nat) (p : Int × Int) (cs : List Cl), (∀ x ∈ l, okC x) → cs.length + l.length ≤ 200 →
    ∃ a', scanS ⟨a, some p, cs⟩ (l.flatMap fun x => lineS x ++ [10]) = .inl ⟨a', some p, cs ++ l⟩
  | [], a, p, cs, _, _ => ⟨a, by rw [List.flatMap_nil, List.append_nil]; exact scan_nil _⟩
  | x :: l, a, p, cs, h, hl => by
    have hx := h x (List.Mem.head _)
    obtain ⟨a', ih⟩ := scan_cmds l (a + ((lineS x).length + 1)) p (cs ++ [x]) (fun y hy => h y (List.Mem.tail _ hy)) (by simp at hl ⊢; omega)
    refine ⟨a', ?_⟩
    rw [List.flatMap_cons, List.append_assoc]
    show scanS _ (lineS x ++ 10 :: (l.flatMap fun x => lineS x ++ [10])) = _
    rw [scan_line (lineS_no hx) (s' := ⟨a + ((lineS x).length + 1), some p, cs ++ [x]⟩), ih]
    · simp
    · unfold lnS
      dsimp only
      rw [if_neg (by simp at hl; omega), call_full hx]
      rfl
theorem parse_text {s : Sc} (h : okS s) (hl : (textS s).length ≤ 262144) : parseS (textS s) = .inl s := by
  obtain ⟨h1, h2, h3, h4⟩ := h
  have ht : textS s = canS s.w s.h ++ 10 :: s.cs.flatMap fun x => lineS x ++ [10] := by unfold textS; simp
  obtain ⟨a', hs⟩ := scan_cmds s.cs (0 + ((canS s.w s.h).length + 1)) (s.w, s.h) [] h4 (by simpa using h3)
  unfold parseS
  rw [if_neg (by omega), if_neg (by rw [ht]; simp)]
  rw [ht, scan_line (canS_no _ _) (s' := ⟨0 + ((canS s.w s.h).length + 1), some (s.w, s.h), []⟩), hs]
  · rfl
  · unfold lnS
    dsimp only
    rw [canP_iff.2 ⟨⟨h1, h2⟩, rfl⟩]
    rfl
/-- the text of what was read -/
def snT (s : Sn) : List UInt8 := match s.wh with
  | none => []
  | some p => canS p.1 p.2 ++ 10 :: s.cs.flatMap fun x => lineS x ++ [10]
def snOk (s : Sn) : Prop := match s.wh with
  | none => s.cs = [] ∧ s.a = 0
  | some p => sideP p.1 ∧ sideP p.2 ∧ s.cs.length ≤ 200 ∧ (∀ x ∈ s.cs, okC x) ∧ 0 < s.a
theorem ln_ok {s s' : Sn} {line : List UInt8} (h : lnS s line = some s') (hs : snOk s) : snOk s' ∧ snT s' = snT s ++ (line ++ [10]) ∧ s'.a = s.a + (line.length + 1) := by
  obtain ⟨a, wh, cs⟩ := s
  unfold lnS at h
  cases wh with
  | none =>
    dsimp only at h
    cases hc : canP line with
    | none => rw [hc] at h; cases h
    | some p =>
      rw [hc] at h
      cases h
      obtain ⟨w, h⟩ := p
      obtain ⟨⟨h1, h2⟩, h3⟩ := canP_iff.1 hc
      obtain ⟨rfl, rfl⟩ : cs = [] ∧ a = 0 := hs
      refine ⟨⟨h1, h2, by simp, by simp, by simp⟩, ?_, rfl⟩
      show canS w h ++ 10 :: [] = [] ++ (line ++ [10])
      rw [h3]
      rfl
  | some p =>
    dsimp only at h
    split at h
    · cases h
    · rename_i hl
      cases hc : callS line with
      | none => rw [hc] at h; cases h
      | some x =>
        rw [hc] at h
        cases h
        obtain ⟨h1, h2⟩ := call_iff.1 hc
        obtain ⟨s1, s2, s3, s4, s5⟩ : sideP p.1 ∧ sideP p.2 ∧ cs.length ≤ 200 ∧ (∀ x ∈ cs, okC x) ∧ 0 < a := hs
        refine ⟨⟨s1, s2, by simp; omega, fun y hy => ?_, by simp; omega⟩, ?_, rfl⟩
        · rcases List.mem_append.1 hy with hy | hy
          · exact s4 y hy
          · rw [List.mem_singleton] at hy; rw [hy]; exact h1
        · simp only [snT, List.flatMap_append, List.flatMap_cons, List.flatMap_nil, List.append_nil, h2]
          simp
theorem scan_sound : ∀ (f : Nat) (s : Sn) (t : List UInt8), t.length ≤ f → snOk s → ∀ q, scanS s t = .inl q → snOk q ∧ snT q = snT s ++ t ∧ q.a = s.a + t.length
  | f, s, t, hf, hs, q, h => by
    by_cases h0 : t = []
    · subst h0
      rw [scan_nil] at h
      cases h
      exact ⟨hs, by simp, rfl⟩
    · by_cases hl : (fore 10 t).length = t.length
      · rw [scan_open h0 hl] at h; cases h
      · obtain ⟨l, r, rfl, hno⟩ := fore_split (t := t) (by have := fore_len 10 t; omega)
        cases hn : lnS s l with
        | none => rw [scan_bad h0 (by rw [fore_app hno]; exact hn)] at h; cases h
        | some s' =>
          rw [scan_line hno hn] at h
          cases f with
          | zero => simp at hf
          | succ f =>
            obtain ⟨o1, o2, o3⟩ := ln_ok hn hs
            obtain ⟨r1, r2, r3⟩ := scan_sound f s' r (by simp at hf; omega) o1 q h
            refine ⟨r1, ?_, ?_⟩
            · rw [r2, o2]
              simp
            · rw [r3, o3]
              simp
              omega
theorem parse_sound {t : List UInt8} {s : Sc} (h : parseS t = .inl s) : okS s ∧ t = textS s ∧ t.length ≤ 262144 := by
  unfold parseS at h
  split at h
  · cases h
  · rename_i hl
    split at h
    · cases h
    · split at h
      · cases h
      · rename_i q hq
        obtain ⟨h1, h2, _⟩ := scan_sound _ ⟨0, none, []⟩ t (Nat.le_refl _) ⟨rfl, rfl⟩ q hq
        obtain ⟨a, wh, cs⟩ := q
        cases wh with
        | none => cases h
        | some p =>
          cases h
          obtain ⟨s1, s2, s3, s4, _⟩ : sideP p.1 ∧ sideP p.2 ∧ cs.length ≤ 200 ∧ (∀ x ∈ cs, okC x) ∧ 0 < a := h1
          refine ⟨⟨s1, s2, s3, s4⟩, ?_, by omega⟩
          have h2' : canS p.1 p.2 ++ 10 :: cs.flatMap (fun x => lineS x ++ [10]) = [] ++ t := h2
          rw [List.nil_append] at h2'
          rw [← h2']
          unfold textS
          simp
/-- where a text is wrong -/
theorem scan_wrong : ∀ (f : Nat) (s : Sn) (t : List UInt8), t.length ≤ f → ∀ a, scanS s t = .inr a → s.a ≤ a ∧ a < s.a + t.length ∧ (a = s.a ∨ s.a < a ∧ t[a - s.a - 1]? = some 10) ∧
    ∀ m : List UInt8, (fore 10 (t.drop (a - s.a))).length < (t.drop (a - s.a)).length → scanS s (t.take (a - s.a + (fore 10 (t.drop (a - s.a))).length + 1) ++ m) = .inr a
  | f, s, t, hf, a, h => by
    by_cases h0 : t = []
    · subst h0
      rw [scan_nil] at h
      cases h
    · have hp : 0 < t.length := List.length_pos_iff.2 h0
      by_cases hl : (fore 10 t).length = t.length
      · rw [scan_open h0 hl] at h
        cases h
        refine ⟨Nat.le_refl _, by omega, .inl rfl, fun m hm => ?_⟩
        rw [Nat.sub_self, List.drop_zero] at hm
        omega
      · obtain ⟨l, r, rfl, hno⟩ := fore_split (t := t) (by have := fore_len 10 t; omega)
        have htk : ∀ n, (l ++ 10 :: r).take (l.length + 1 + n) = l ++ 10 :: r.take n := fun n => by
          rw [List.take_append, List.take_of_length_le (by omega), show l.length + 1 + n - l.length = n + 1 by omega, List.take_succ_cons]
        cases hn : lnS s l with
        | none =>
          rw [scan_bad h0 (by rw [fore_app hno]; exact hn)] at h
          cases h
          refine ⟨Nat.le_refl _, by omega, .inl rfl, fun m _ => ?_⟩
          rw [Nat.sub_self, List.drop_zero, Nat.zero_add, fore_app hno]
          have e := htk 0
          rw [Nat.add_zero, List.take_zero] at e
          rw [e, List.append_assoc]
          exact scan_bad (by simp) (by rw [List.cons_append, fore_app hno]; exact hn)
        | some s' =>
          rw [scan_line hno hn] at h
          cases f with
          | zero => simp at hf
          | succ f =>
            have hsa : s'.a = s.a + (l.length + 1) := by
              unfold lnS at hn
              split at hn
              · cases hc : canP l with
                | none => rw [hc] at hn; cases hn
                | some p => rw [hc] at hn; cases hn; rfl
              · split at hn
                · cases hn
                · cases hc : callS l with
                  | none => rw [hc] at hn; cases hn
                  | some p => rw [hc] at hn; cases hn; rfl
            obtain ⟨r1, r2, r3, r4⟩ := scan_wrong f s' r (by simp at hf; omega) a h
            have ed : (l ++ 10 :: r).drop (a - s.a) = r.drop (a - s'.a) := by
              rw [show a - s.a = (l.length + 1) + (a - s'.a) by omega, ← List.drop_drop, drop_fore]
            refine ⟨by omega, by simp; omega, .inr ⟨by omega, ?_⟩, fun m hm => ?_⟩
            · rcases r3 with r3 | ⟨r3, r5⟩
              · have e : a - s.a - 1 = l.length := by omega
                rw [e]
                simp
              · rw [show a - s.a - 1 = l.length + 1 + (a - s'.a - 1) by omega, ← r5, List.getElem?_append_right (by omega), show l.length + 1 + (a - s'.a - 1) - l.length = a - s'.a - 1 + 1 by omega]
                rfl
            · rw [ed] at hm ⊢
              have := r4 m hm
              obtain ⟨j, hj⟩ : ∃ j, (fore 10 (r.drop (a - s'.a))).length = j := ⟨_, rfl⟩
              rw [hj] at this ⊢
              rw [show a - s.a + j + 1 = l.length + 1 + (a - s'.a + j + 1) by omega, htk, List.append_assoc]
              show scanS s (l ++ 10 :: (r.take _ ++ m)) = _
              rw [scan_line hno hn]
              exact this
theorem parse_wrong {t : List UInt8} (ht : t.length ≤ 262144) {e a : Nat} (h : parseS t = .inr (e, a)) : e = 380 ∧ a ≤ t.length ∧ (a = 0 ∨ 0 < a ∧ t[a - 1]? = some 10) ∧
    ∀ m : List UInt8, (fore 10 (t.drop a)).length < (t.drop a).length → (t.take (a + (fore 10 (t.drop a)).length + 1) ++ m).length ≤ 262144 → parseS (t.take (a + (fore 10 (t.drop a)).length + 1) ++ m) = .inr (380, a) := by
  unfold parseS at h
  rw [if_neg (by omega)] at h
  split at h
  · rename_i h0
    cases h
    subst h0
    exact ⟨rfl, by simp, .inl rfl, fun m hm => by simp [fore] at hm⟩
  · rename_i h0
    split at h
    · rename_i b hb
      cases h
      obtain ⟨_, h2, h3, h4⟩ := scan_wrong _ ⟨0, none, []⟩ t (Nat.le_refl _) _ hb
      simp only [Nat.sub_zero, Nat.zero_add] at h2 h3 h4
      refine ⟨rfl, by omega, h3, fun m hm hl => ?_⟩
      unfold parseS
      rw [if_neg (by omega), if_neg, h4 m hm]
      intro e
      rcases List.take_eq_nil_iff.1 (List.append_eq_nil_iff.1 e).1 with e | e
      · omega
      · exact h0 e
    · rename_i q hq
      obtain ⟨h1, h2, h3⟩ := scan_sound _ ⟨0, none, []⟩ t (Nat.le_refl _) ⟨rfl, rfl⟩ q hq
      obtain ⟨a', wh, cs⟩ := q
      cases wh with
      | none =>
        have h1' : cs = [] ∧ a' = 0 := h1
        have : 0 < t.length := List.length_pos_iff.2 h0
        simp at h3
        omega
      | some p => cases h
end Go.Proofs.YtdnicbbandbdbaaDoor
