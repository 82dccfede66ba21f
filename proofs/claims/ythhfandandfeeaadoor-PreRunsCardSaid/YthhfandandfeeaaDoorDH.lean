/- Plain laws: rows of tokens by where they lie; a part of a slice. No condition. -/
import Derived.Test.YthhfandandfeeaaDoorDG
import Derived.Test.YthhfandandfeeaaDoorMM
import Derived.Test.YthhfandandfeeaaDoorMN
namespace Go.PB
open Go.RowKit
section
variable {P : Program} {M : List Nat} {w0 : World} {n : Nat} {D : List Deferred} {L : List (Nat × Value)} {H : List Ent} {oty t : TypeId} {x : Operand}
theorem ev_slice_lhAny {e : TypeId} {sz b off m c : Nat} {lo hi : Operand} {k k' : IntKind} {i j : Int} (ht : Sl P t e) (hs : Sz P e sz) (hx : evo L x = some (.slice (some ⟨b, off, none⟩) m c)) (hlo : evo L lo = some (.int k i)) (hhi : evo L hi = some (.int k' j))
    (hb : 0 ≤ i ∧ i ≤ j ∧ j ≤ c) : Ev P M w0 n D L H (.slice t x (some lo) (some hi) none) oty (.slice (some ⟨b, if c = i.toNat then off else off + i.toNat * sz, none⟩) (j.toNat - i.toNat) (c - i.toNat)) := by
  unfold Ev
  intro a w hf _ dst pos after g
  have ht' : P.underlying t = some (.slice e) := ht
  have h0 : 0 ≤ j := by omega
  have h1 : i ≤ (j.toNat : Int) := by omega
  by_cases hne : c = i.toNat
  · simp [execOp, hf.eval hx, hf.eval hlo, hf.eval hhi, Instr.sliceAt, Instr.slice, Instr.sliceBounds, Instr.sliceBound, asIntOf, run_underlying ht', hb.1, hb.2.2, h0, run_sizeOf hs, add_lit, hne]
    rw [if_pos (by omega), if_pos (by omega)]
  · simp [execOp, hf.eval hx, hf.eval hlo, hf.eval hhi, Instr.sliceAt, Instr.slice, Instr.sliceBounds, Instr.sliceBound, asIntOf, run_underlying ht', hb.1, hb.2.2, h0, run_sizeOf hs, add_lit, hne]
    intro hh; omega
end
end Go.PB
namespace Go.Proofs.YthhfandandfeeaaDoor
open Go.PB Go.RowKit
theorem rdE_sub {R : List Ent} {b off c : Nat} {T : List Tk} {arr : Array Value} {et : TypeId} {fr : Nat × Nat} {wr : Bool} {lo hi : Nat} (hm : (⟨b, wr, .cells arr et fr⟩ : Ent) ∈ R) (hc : T.length ≤ c)
    (hg : ∀ j, j < T.length → ∀ (f : Nat) u, (tkC (T.getD j tk0))[f]? = some u → ∀ o, o = off + (j * 5 + f) → arr[o]? = some u) (h1 : lo ≤ hi) (h2 : hi ≤ T.length) :
    RdE R (.slice (some ⟨b, if c = lo then off else off + lo * 5, none⟩) (hi - lo) (c - lo)) ((T.take hi).drop lo) := by
  have hl : ((T.take hi).drop lo).length = hi - lo := by simp; omega
  rcases Nat.eq_or_lt_of_le h1 with rfl | h3
  · refine .inl ⟨_, _, by rw [Nat.sub_self], List.eq_nil_of_length_eq_zero (by rw [hl, Nat.sub_self])⟩
  · rw [if_neg (by omega), ← hl]
    refine .inr ⟨b, off + lo * 5, c - lo, arr, et, fr, wr, rfl, hm, by rw [hl]; omega, fun j u hu => ?_⟩
    have hj : j < ((T.take hi).drop lo).length * 5 := by
      have := (List.getElem?_eq_some_iff.1 hu).1
      rwa [show (tksC ((T.take hi).drop lo)).length = ((T.take hi).drop lo).length * 5 from flat_len tkC 5 (fun _ => rfl) _] at this
    have hd : j / 5 < ((T.take hi).drop lo).length := by omega
    have hel : ((T.take hi).drop lo).getD (j / 5) tk0 = T.getD (lo + j / 5) tk0 := by
      rw [hl] at hd
      simp only [List.getD, List.getElem?_drop, List.getElem?_take]
      rw [if_pos (by omega)]
    obtain ⟨v, hv⟩ : ∃ v, (tkC (T.getD (lo + j / 5) tk0))[j % 5]? = some v := ⟨_, List.getElem?_eq_getElem (show j % 5 < (tkC _).length by simp only [tkC, List.length_cons, List.length_nil]; omega)⟩
    have hs := tksC_get (l := (T.take hi).drop lo) (j := j / 5) (i := j % 5) hd (by rw [show (⟨0, [], 0, 0, 0⟩ : Tk) = tk0 from rfl, hel]; exact hv)
    rw [show j / 5 * 5 + j % 5 = j by omega, hu] at hs
    rw [Option.some.inj hs]
    rw [hl] at hd
    exact hg (lo + j / 5) (by omega) _ _ hv _ (by omega)
/-- where a row lies -/
theorem row_at {T : List Tk} {L : List (List Tk)} (h : RowsOk T L) {a : Nat} (ha : a < L.length) :
    ∃ hd rest i, L.getD a [] = hd :: rest ∧ (L.take a).flatten.length = i ∧ (∀ k, k < rest.length + 1 → T.getD (i + k) tk0 = (hd :: rest).getD k tk0 ∧ ((hd :: rest).getD k tk0).ln = hd.ln) ∧ i + (rest.length + 1) ≤ T.length ∧
      (i + (rest.length + 1) < T.length → (T.getD (i + (rest.length + 1)) tk0).ln ≠ hd.ln) ∧ (T.take (i + (rest.length + 1))).drop (i + 1) = rest ∧ (L.take (a + 1)).flatten.length = i + (rest.length + 1) := by
  have hmem : L.getD a [] ∈ L := by simp [List.getD, ha]
  obtain ⟨r, hr⟩ : ∃ r, L.getD a [] = r := ⟨_, rfl⟩
  rw [hr] at hmem
  have hrow := h.row r hmem
  rcases r with _ | ⟨hd, rest⟩
  · exact absurd rfl hrow.1
  obtain ⟨P, hP⟩ : ∃ P, (L.take a).flatten = P := ⟨_, rfl⟩
  have hLs : L = L.take a ++ (hd :: rest) :: L.drop (a + 1) := by
    have := drop_getD [] ha
    rw [hr] at this
    rw [← this, List.take_append_drop]
  obtain ⟨S, hS⟩ : ∃ S, (L.drop (a + 1)).flatten = S := ⟨_, rfl⟩
  have hT : T = P ++ ((hd :: rest) ++ S) := by
    rw [← h.all]
    conv => lhs; rw [hLs]
    rw [List.flatten_append, List.flatten_cons, hP, hS]
  refine ⟨hd, rest, P.length, hr, by rw [hP], fun k hk => ⟨?_, ?_⟩, ?_, ?_, ?_, ?_⟩
  · rw [hT]
    simp only [List.getD]
    rw [List.getElem?_append_right (by omega), show P.length + k - P.length = k by omega, List.getElem?_append_left (by simpa using hk)]
  · have : (hd :: rest).getD k tk0 ∈ hd :: rest := by
      simp only [List.getD, List.getElem?_eq_getElem (show k < (hd :: rest).length by simpa using hk), Option.getD_some]
      exact List.getElem_mem _
    exact hrow.2 _ this
  · rw [hT]
    simp only [List.length_append, List.length_cons]
    omega
  · intro hlt
    cases hQ : L.drop (a + 1) with
    | nil =>
      rw [hQ] at hS
      rw [hT, ← hS] at hlt
      simp at hlt
    | cons q Q =>
      rw [hQ] at hLs hS
      have h1 := h.apart _ _ _ _ hLs
      have hq := (h.row q (by rw [hLs]; simp)).1
      rcases q with _ | ⟨q0, qr⟩
      · exact absurd rfl hq
      · have : T.getD (P.length + (rest.length + 1)) tk0 = q0 := by
          rw [hT, ← hS]
          simp only [List.getD]
          rw [List.getElem?_append_right (by omega), show P.length + (rest.length + 1) - P.length = rest.length + 1 by omega, List.getElem?_append_right (by simp)]
          simp
        rw [this]
        exact fun e => h1 e.symm
  · rw [hT, List.take_append, List.take_of_length_le (by omega), show P.length + (rest.length + 1) - P.length = rest.length + 1 by omega, List.take_append_of_le_length (by simp), List.take_of_length_le (by simp),
      List.drop_append, List.drop_of_length_le (by omega), show P.length + 1 - P.length = 1 by omega]
    rfl

  · have h2 : L.take (a + 1) = L.take a ++ [hd :: rest] := by
      rw [List.take_succ_eq_append_getElem ha]
      congr 2
      have := hr
      simp only [List.getD, List.getElem?_eq_getElem ha, Option.getD_some] at this
      exact this
    rw [h2, List.flatten_append, List.length_append, hP]
    simp
theorem row_zero {T : List Tk} {L : List (List Tk)} (h : RowsOk T L) {a : Nat} (ha : a < L.length) : (L.take a).flatten.length = 0 ↔ a = 0 := by
  constructor
  · intro h0
    rcases a with _ | a
    · rfl
    · obtain ⟨hd, rest, i, _, _, _, _, _, _, h1⟩ := row_at h (show a < L.length by omega)
      rw [h1] at h0
      omega
  · rintro rfl
    rfl
end Go.Proofs.YthhfandandfeeaaDoor
