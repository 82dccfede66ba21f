/- Proved: KindsCallsSaid: the law KindsCalls returns true for every input, and each argument reads behind the call as before. No condition. -/
import Derived.Test.YtoicghljdndpeaaF2
import Derived.Test.YtoicghljdndpeaaL4
namespace Go.Proofs.Ytoicghljdndpeaa
open Go.PB Go.ChangeShapes Go.WideShapes Go.ChangeAt Go.RowKit
attribute [local irreducible] Go.Calls
/-- an argument: a row of types -/
theorem open_types {H : Type} {enc : TypeId × Value → H} {W : World} {r : Reach} {b0 base : Nat} {v : Value} {d : DataW H} {ps : List MemPlace} {sp : Nat → Bool} {held : Bool} (hval : Value.okWide Try.prog W r b0 22 v) (hd : DataW.Trod enc Try.prog W base sp held 22 v d ps) :
    ∃ (a : Option Addr) (ts : List (Int × Int)) (cap : Nat), v = .slice a ts.length cap ∧ ts.length ≤ cap ∧ (0 < ts.length → ∃ g off c e fr, a = some ⟨g, off, none⟩ ∧ W.heap[g]? = some (.cells c e fr) ∧ ReadsT c off ts) := by
  obtain ⟨a, len, cap, rfl⟩ := okWide_slice Try.underlying22 hval
  obtain ⟨fuel, hf⟩ := hd
  have hc2 : Try.prog.cellsOf 25 = 2 := by kernel_rfl
  have hc1 : Try.prog.cellsOf 3 = 1 := by kernel_rfl
  rcases DataW.trod_slice Try.underlying22 hf with ⟨h, _⟩ | ⟨ad, len', cap', elems, rest, n, _, h, _, _, hlc, _, hel, hels, _⟩
  · simp [Value.cells] at h
    obtain ⟨rfl, rfl, rfl⟩ := h
    exact ⟨none, [], 0, rfl, Nat.le_refl _, by simp⟩
  · simp [Value.cells] at h
    obtain ⟨rfl, rfl, rfl⟩ := h
    have hex : ∀ i, ∃ t : Int × Int, i < len → W.cell? (ad.add (i * 2)) = some (.int .i64 t.1) ∧ W.cell? ((ad.add (i * 2)).add 1) = some (.int .i64 t.2) := by
      intro i
      by_cases hi : i < len
      · have h1 := hels i hi
        rw [hc2, List.getElem?_eq_getElem (by omega)] at h1
        obtain ⟨cs, hcs, htr⟩ := Option.bind_eq_some_iff.1 h1
        obtain ⟨y0, y1, k, _, hl, t0, t1⟩ := trod_struct2 Try.underlying25 htr
        obtain ⟨p, hp, _⟩ := DataW.trod_int Try.underlying3 t0
        obtain ⟨q, hq, _⟩ := DataW.trod_int Try.underlying3 t1
        rw [hc1] at hp hq
        rw [hc2] at hl
        refine ⟨(p, q), fun _ => ?_⟩
        unfold World.cells? at hcs
        split at hcs
        · match cs, hl with
          | [x, y], _ =>
            simp at hp hq
            subst hp hq
            rw [show List.range 2 = [0, 1] from rfl] at hcs
            simp only [List.mapM_cons, List.mapM_nil, Option.bind_eq_bind, Option.pure_def, Option.bind_eq_some_iff] at hcs
            obtain ⟨x0, hx0, l1, ⟨x1, hx1, l2, hl2, e2⟩, e1⟩ := hcs
            simp at hl2
            subst hl2
            simp at e2
            subst e2
            simp at e1
            obtain ⟨rfl, rfl⟩ := e1
            exact ⟨by simpa [Addr.add] using hx0, hx1⟩
        · cases hcs
      · exact ⟨(0, 0), fun h => absurd h hi⟩
    obtain ⟨f, hf'⟩ := Classical.axiomOfChoice hex
    refine ⟨some ad, (List.range len).map f, cap, by simp, by simpa using hlc, fun h0 => ?_⟩
    simp only [List.length_map, List.length_range] at h0
    obtain ⟨g, off, spot⟩ := ad
    have hf0 := (hf' 0 h0).1
    simp only [Nat.zero_mul] at hf0
    have hs : spot = none ∧ ∃ c e fr, W.heap[g]? = some (.cells c e fr) := by
      unfold World.cell? at hf0
      simp only [Addr.add, if_pos] at hf0
      split at hf0
      · rename_i c e fr hcell
        split at hf0
        · cases hf0
        · rename_i hsp
          exact ⟨by simpa using hsp, c, e, fr, hcell⟩
      · cases hf0
    obtain ⟨rfl, c, e, fr, hcell⟩ := hs
    refine ⟨g, off, c, e, fr, rfl, hcell, fun j hj => ?_⟩
    simp only [List.length_map, List.length_range] at hj
    have h1 := hf' j hj
    rw [add_lit, add_lit, cell_cells hcell, cell_cells hcell] at h1
    simpa using h1
set_option maxRecDepth 100000 in
theorem kindsCalls_lifted (os : Os) (started : os.Started) (H : Type) (enc : TypeId × Value → H) :
    ReturnsInHanded {} Try.checked os 3 .any (Rows.kindsCallsSpec.pre6 enc Try.prog Try.f3 Rows.kindsCallsRow.domain false) (Rows.kindsCallsSpec.post enc Try.prog Try.f3 false true false false) := by
  refine returnsInHanded_of_change (C := Try.checked) own started (by kernel_rfl) Try.func3
    (ChangeSpec.witness6 (enc := enc) (C := Try.checked) false ⟨#[], #[st [], .slice none 0 0], []⟩ 8 (by kernel_rfl) (by kernel_rfl) (by kernel_rfl) (by kernel_rfl)) ?_
  intro W base args ds gs before hval0 hW hcnd _
  have hval : ∀ (j : Nat) t v, Try.f3.params[j]? = some t → args[j]? = some v → Value.okWide Try.prog W .any base t v := hval0
  have hW' := hW
  obtain ⟨p, q, hA0, hV, rfl, hfz, hnd⟩ := hW
  have hA : DataW.TrodAll enc Try.prog W 0 (fun _ => true) true Try.f3.params.toList args.toList ds p := hA0
  rw [Try.params3] at hA hval
  obtain ⟨v0, vs0, d0, ds0, p0, q0, hargs, rfl, rfl, h0, r0⟩ := trodAll_cons hA
  obtain ⟨v1, vs1, d1, ds1, p1, q1, rfl, rfl, rfl, h1, r1⟩ := trodAll_cons r0
  obtain ⟨rfl, rfl, rfl⟩ := trodAll_nil r1
  obtain rfl : args = #[v0, v1] := by cases args; simp_all
  obtain ⟨rfl, rfl⟩ := trodVars_none hV
  obtain ⟨l0, rfl, hl0⟩ := open_text (hval 0 _ _ rfl rfl) h0
  obtain ⟨a1, ts, cap, rfl, hcap, hts⟩ := open_types (hval 1 _ _ rfl rfl) h1
  refine (callsLaw_ok l0 a1 ts cap W hcap hts).mono fun e W' ⟨he, hg⟩ => ⟨_, he, ?_⟩
  exact true_post laidOut hW' rfl rfl rfl Try.underlying4 (by kernel_rfl) hg.below
theorem kindsCalls_over : Rows.kindsCallsRow.holds Try.pinned (OpenSpec.ofChange Rows.kindsCallsSpec) :=
  OpenClaim.holds_of_wide 3 Try.f3 rfl rfl rfl rfl rfl rfl rfl ⟨rfl, rfl, rfl, rfl, rfl⟩ rfl rfl rfl rfl rfl (by kernel_rfl) Try.func3 (by kernel_rfl)
    (of_decide_eq_true (by kernel_rfl)) (by unfold Func.isWrapper; first | (rw [if_pos (by decide +kernel)]; kernel_rfl) | (rw [if_neg (by decide +kernel)]; exact ⟨rfl, rfl⟩))
    (fun os started H enc _ => kindsCalls_lifted os started H enc)
theorem kindsCalls_proved : Rows.KindsCallsSaid := kindsCalls_over
#print axioms kindsCalls_proved
end Go.Proofs.Ytoicghljdndpeaa
