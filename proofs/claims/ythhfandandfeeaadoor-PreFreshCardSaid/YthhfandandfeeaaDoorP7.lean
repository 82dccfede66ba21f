/- A text that says nothing to the layer: plain laws. No condition. -/
import Derived.Test.YthhfandandfeeaaDoorS2
import Derived.Test.YthhfandandfeeaaDoorP2
namespace Go.Proofs.YthhfandandfeeaaDoor
def plT (t : Tk) : Bool := !(t.t == [35] || t.t == nES || t.t == nLINE || t.t == nVER)
/-- does a text say nothing to this layer? -/
def plB (s : Nm) : Bool := (lexS s).1.all plT && decide ((lexS s).2.1 = 0)
theorem plT_iff {t : Tk} : plT t = true ↔ t.t ≠ [35] ∧ t.t ≠ nES ∧ t.t ≠ nLINE ∧ t.t ≠ nVER := by
  unfold plT
  simp [and_assoc]
theorem stay_self (t : Tk) : stay t t.at_ t.ln = t := rfl
/-- tokens that stand for nothing are told as they are -/
theorem putS_id {V : Wds} : ∀ (l out : List Tk), (∀ t ∈ l, t.k ≠ 1 ∨ standsB V t.t = false) → out.length + l.length ≤ 2048 → putS V out l = .inl (out ++ l)
  | [], out, _, _ => by simp [putS]
  | t :: l, out, h, hl => by
    have ht := h t (List.Mem.head _)
    have he : expS V t = some [t] := by
      unfold expS
      rw [expF_stay (by rcases ht with h | h; exact .inl h; exact .inr (.inr h))]
      rfl
    simp only [List.length_cons] at hl
    rw [putS, he]
    simp only [List.length_singleton]
    rw [if_neg (by omega), putS_id l (out ++ [t]) (fun u hu => h u (List.Mem.tail _ hu)) (by simp; omega)]
    simp
theorem rowsS_id {V : Wds} : ∀ (L : List (List Tk)) (first : Bool) (out : List Tk), (∀ r ∈ L, r ≠ [] ∧ ∀ t ∈ r, (t.k ≠ 1 ∨ standsB V t.t = false) ∧ ¬(t.k = 4 ∧ t.t = [35])) → out.length + L.flatten.length ≤ 2048 →
    rowsS first ⟨V, [], out⟩ L = .inl ⟨V, [], out ++ L.flatten⟩
  | [], _, out, _, _ => by simp [rowsS]
  | r :: L, first, out, h, hl => by
    obtain ⟨hr0, hr⟩ := h r (List.Mem.head _)
    simp only [List.flatten_cons, List.length_append] at hl
    rw [rowsS]
    have : rowS first ⟨V, [], out⟩ r = .inl ⟨V, [], out ++ r⟩ := by
      cases r with
      | nil => exact absurd rfl hr0
      | cons t r =>
        rw [rowS, if_neg (hr t (List.Mem.head _)).2, if_neg (by simp [cntB]), putS_id _ _ (fun u hu => (hr u hu).1) (by dsimp only; omega)]
    rw [this]
    dsimp only
    rw [rowsS_id L false (out ++ r) (fun q hq => h q (List.Mem.tail _ hq)) (by rw [List.length_append]; omega)]
    simp
theorem stands_pl {V : Wds} {t : Tk} (hV : V = [(nES, [numT 1])]) (h : plT t = true) : standsB V t.t = false := by
  subst hV
  obtain ⟨_, h2, h3, h4⟩ := plT_iff.1 h
  unfold standsB
  simp only [wget]
  rw [if_neg (fun e => h2 e.symm)]
  simp [h3, h4]
theorem pre_plain {s : Nm} (h : plB s = true) : preS s = lexS s := by
  unfold plB at h
  simp only [Bool.and_eq_true, decide_eq_true_eq, List.all_eq_true] at h
  obtain ⟨h1, h2⟩ := h
  obtain ⟨⟨T, e, p⟩, hR⟩ : ∃ R, lexS s = R := ⟨_, rfl⟩
  rw [hR] at h1 h2
  dsimp only at h1 h2
  subst h2
  obtain ⟨hsl, hch, hTl⟩ := ch_of_lexS hR
  have h0 := lexS_of_ch hsl hch hTl
  unfold preS
  rw [h0, if_neg (by simp)]
  dsimp only
  have hRok := linesS_ok T
  rw [rowsS_id (linesS T) true [] (fun r hr => ⟨(hRok.row r hr).1, fun t ht => ?_⟩) (by rw [hRok.all]; simpa using hTl)]
  · dsimp only
    rw [if_pos rfl, hRok.all]
    rfl
  · have hT : t ∈ T := by
      rw [← hRok.all]
      exact List.mem_flatten.2 ⟨r, hr, ht⟩
    exact ⟨.inr (stands_pl rfl (h1 t hT)), fun e => (plT_iff.1 (h1 t hT)).1 e.2⟩
end Go.Proofs.YthhfandandfeeaaDoor
