/- Bounds on tokens and rows; what a frame of memory keeps. No condition. -/
import Derived.Test.YthhfandandfeeaaDoorMJ
import Derived.Test.YthhfandandfeeaaDoorMK
import Derived.Test.YthhfandandfeeaaDoorP2
namespace Go.PB
open Go.RowKit
/-- what a call leaves alone stays known -/
theorem St.frameS {M : List Nat} {w0 w w' : World} {A A' F : List Ent} (h : St M w0 w (A ++ F)) (h' : St (wrs A) w w' A') (hro : ∀ p ∈ A', p.wr = false → ∃ a ∈ A, a.b = p.b) : St M w0 w' (A' ++ F) := by
  have hA : St M w0 w A := h.sub (List.sublist_append_left _ _)
  have hF : St M w0 w F := h.sub (List.sublist_append_right _ _)
  have hg := hA.go h'
  have hx := (List.pairwise_append.1 h.apart).2.2
  have hq : ∀ q ∈ F, q.b < w.heap.size := fun q hq => lt_of_get (h.own q (List.mem_append_right _ hq)).1
  have hnw : ∀ q ∈ F, q.b ∉ wrs A := fun q hq hw => by
    obtain ⟨a, ha, hab⟩ := List.mem_map.1 hw
    obtain ⟨ha, haw⟩ := List.mem_filter.1 ha
    have := (hx a ha q hq hab).1
    rw [this] at haw
    cases haw
  refine ⟨hg.os, hg.tape, hg.output, hg.size, hg.frame, fun p hp => ?_, ?_⟩
  · rcases List.mem_append.1 hp with hp | hp
    · exact hg.own p hp
    · refine ⟨?_, fun hw => (h.own p (List.mem_append_right _ hp)).2 hw⟩
      rw [h'.frame p.b (hq p hp) (hnw p hp)]
      exact (h.own p (List.mem_append_right _ hp)).1
  · rw [List.pairwise_append]
    refine ⟨hg.apart, hF.apart, fun p hp q hq' e => ?_⟩
    cases hpw : p.wr with
    | true =>
      exfalso
      rcases (h'.own p hp).2 hpw with h1 | h1
      · have := hq q hq'
        omega
      · exact hnw q hq' (e ▸ h1)
    | false =>
      obtain ⟨a, ha, hab⟩ := hro p hp hpw
      exact ⟨rfl, (hx a ha q hq' (hab.trans e)).2⟩
theorem GivesS.frame {P : Program} {f : FuncId} {args : Array Value} {X : Type} {val : X → Value} {φ : X → Prop} {A' : X → List Ent} {M : List Nat} {w0 w : World} {A F : List Ent} (hs : St M w0 w (A ++ F)) (hc : Calls P f args w (GivesS val φ (wrs A) w A'))
    (hro : ∀ q, ∀ p ∈ A' q, p.wr = false → ∃ a ∈ A, a.b = p.b) : Calls P f args w (GivesS val φ M w0 (fun q => A' q ++ F)) := by
  refine hc.mono fun e w' hR => ?_
  obtain ⟨q, hq, rfl, hx⟩ := hR
  exact ⟨q, hq, rfl, hs.frameS hx (hro q)⟩
end Go.PB
namespace Go.Proofs.YthhfandandfeeaaDoor
open Go.PB Go.RowKit
theorem ch_bound : ∀ {l : List Tk} {s : List UInt8} {i : Nat}, Ch s i l → ∀ t ∈ l, t.t.length ≤ s.length ∧ t.ln ≤ s.length ∧ t.at_ ≤ s.length
  | [], _, _, _, t, ht => by cases ht
  | u :: l, s, i, ⟨_, q, h1, h2, h3, h4, h5, h6⟩, t, ht => by
    rcases List.mem_cons.1 ht with rfl | ht
    · rw [h5]
      unfold tkAt
      refine ⟨?_, ?_, by simp; omega⟩
      · simp only [List.length_take, List.length_drop]
        omega
      · exact nl_le
    · exact ch_bound h6 t ht
theorem rows_le {L : List (List Tk)} (h : ∀ r ∈ L, r ≠ []) : L.length ≤ L.flatten.length := by
  induction L with
  | nil => simp
  | cons r L ih =>
    have h1 := ih fun r hr => h r (List.Mem.tail _ hr)
    have h2 : 0 < r.length := List.length_pos_iff.2 (h r (List.Mem.head _))
    simp only [List.flatten_cons, List.length_append, List.length_cons]
    omega
theorem dirS_len {V V' : Wds} {P P' : List Pt} {first : Bool} {l : List Tk} (h : dirS V P first l = some (V', P')) : P'.length ≤ P.length + 1 := by
  unfold dirS at h
  repeat' split at h
  all_goals first
    | (cases h; done)
    | (simp only [Option.some.injEq, Prod.mk.injEq] at h; obtain ⟨_, rfl⟩ := h; simp; done)
    | (simp only [Option.some.injEq, Prod.mk.injEq] at h; obtain ⟨_, rfl⟩ := h; simp; omega)
theorem WdAt.mono {R R' : List Ent} {tab : Tab} {V : Wds} (h : WdAt R tab V) (hR : ∀ p ∈ R, p ∈ R') : WdAt R' tab V := ⟨h.1, fun k => by
  have := h.2 k
  revert this
  cases wget V k with
  | none => exact id
  | some l => exact fun ⟨v, h1, h3, h4⟩ => ⟨v, h1, h3.mono hR, h4⟩⟩
theorem drop_getD {α : Type} {l : List α} {i : Nat} (d : α) (h : i < l.length) : l.drop i = l.getD i d :: l.drop (i + 1) := by
  rw [List.drop_eq_getElem_cons h]
  simp [List.getD, h]
end Go.Proofs.YthhfandandfeeaaDoor
