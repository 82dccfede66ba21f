/- Proved: KindsWordsSaid, KindsBackSaid, KindsOperatorsSaid: these laws return true for every input, and each argument reads behind the call as before. No condition. -/
import Derived.Test.YtoicghljdndpeaaF1
import Derived.Test.YtoicghljdndpeaaL2
import Derived.Test.YtoicghljdndpeaaL3
namespace Go.Proofs.Ytoicghljdndpeaa
open Go.PB Go.ChangeShapes Go.WideShapes Go.ChangeAt Go.RowKit
attribute [local irreducible] Go.Calls
theorem open_text {H : Type} {enc : TypeId × Value → H} {W : World} {r : Reach} {b0 base : Nat} {v : Value} {d : DataW H} {ps : List MemPlace} {sp : Nat → Bool} {held : Bool} (hval : Value.okWide Try.prog W r b0 9 v) (hd : DataW.Trod enc Try.prog W base sp held 9 v d ps) :
    ∃ l : List UInt8, v = st l ∧ l.length ≤ 9223372036854775807 := by
  obtain ⟨⟨⟨l⟩⟩, rfl, _, _, h⟩ := Go.ChangeMaps.open_string Try.underlying9 hval hd
  exact ⟨l, rfl, by simpa [maxLen, ByteArray.size] using h⟩
/-- an argument: a struct of three types -/
theorem open_three {H : Type} {enc : TypeId × Value → H} {W : World} {r : Reach} {b0 base : Nat} {v : Value} {d : DataW H} {ps : List MemPlace} {sp : Nat → Bool} {held : Bool} (hval : Value.okWide Try.prog W r b0 45 v) (hd : DataW.Trod enc Try.prog W base sp held 45 v d ps) :
    ∃ p q r s u v' : Int, v = .agg #[.int .i64 p, .int .i64 q, .int .i64 r, .int .i64 s, .int .i64 u, .int .i64 v'] := by
  obtain ⟨cs, rfl, _⟩ := okWide_struct Try.underlying45 hval
  obtain ⟨fuel, hf⟩ := hd
  obtain ⟨xs, n, _, _, hl, hlen, hfs⟩ := DataW.trod_struct Try.underlying45 hf
  have hc3 : Try.prog.cellsOf 45 = 6 := by kernel_rfl
  have hc2 : Try.prog.cellsOf 25 = 2 := by kernel_rfl
  have hc1 : Try.prog.cellsOf 3 = 1 := by kernel_rfl
  rw [hc3] at hl
  obtain ⟨l⟩ := cs
  simp only [Value.cells] at hl hfs
  have two : ∀ {n : Nat} {m : List Value} {x : DataW H × List MemPlace}, DataW.trod enc Try.prog W base sp held n 25 m = some x → ∃ p q : Int, m = [.int .i64 p, .int .i64 q] := by
    intro n m x h
    obtain ⟨y0, y1, k, _, hl, t0, t1⟩ := trod_struct2 Try.underlying25 h
    obtain ⟨p, hp, _⟩ := DataW.trod_int Try.underlying3 t0
    obtain ⟨q, hq, _⟩ := DataW.trod_int Try.underlying3 t1
    rw [hc2] at hl
    rw [hc1] at hp hq
    refine ⟨p, q, ?_⟩
    match m, hl with
    | [x, y], _ =>
      simp at hp hq
      rw [hp, hq]
  match xs, hlen with
  | [y0, y1, y2], _ =>
    have h0 : DataW.trod enc Try.prog W base sp held n 25 ((l.drop 0).take (Try.prog.cellsOf 25)) = some y0 := hfs 0 _ rfl
    have h1 : DataW.trod enc Try.prog W base sp held n 25 ((l.drop 2).take (Try.prog.cellsOf 25)) = some y1 := hfs 1 _ rfl
    have h2 : DataW.trod enc Try.prog W base sp held n 25 ((l.drop 4).take (Try.prog.cellsOf 25)) = some y2 := hfs 2 _ rfl
    obtain ⟨p, q, e0⟩ := two h0
    obtain ⟨r, s, e1⟩ := two h1
    obtain ⟨u, v', e2⟩ := two h2
    rw [hc2] at e0 e1 e2
    refine ⟨p, q, r, s, u, v', ?_⟩
    match l, hl with
    | [a, b, c, d, e, f], _ =>
      simp at e0 e1 e2
      simp [e0, e1, e2]
set_option maxRecDepth 100000 in
theorem kindsWords_lifted (os : Os) (started : os.Started) (H : Type) (enc : TypeId × Value → H) :
    ReturnsInHanded {} Try.checked os 4 .any (Rows.kindsWordsSpec.pre6 enc Try.prog Try.f4 Rows.kindsWordsRow.domain false) (Rows.kindsWordsSpec.post enc Try.prog Try.f4 false true false false) := by
  refine returnsInHanded_of_change (C := Try.checked) own started (by kernel_rfl) Try.func4
    (ChangeSpec.witness6 (enc := enc) (C := Try.checked) false ⟨#[], #[st [], tyv 0 0], []⟩ 8 (by kernel_rfl) (by kernel_rfl) (by kernel_rfl) (by kernel_rfl)) ?_
  intro W base args ds gs before hval0 hW hcnd _
  have hval : ∀ (j : Nat) t v, Try.f4.params[j]? = some t → args[j]? = some v → Value.okWide Try.prog W .any base t v := hval0
  have hW' := hW
  obtain ⟨p, q, hA0, hV, rfl, hfz, hnd⟩ := hW
  have hA : DataW.TrodAll enc Try.prog W 0 (fun _ => true) true Try.f4.params.toList args.toList ds p := hA0
  rw [Try.params4] at hA hval
  obtain ⟨v0, vs0, d0, ds0, p0, q0, hargs, rfl, rfl, h0, r0⟩ := trodAll_cons hA
  obtain ⟨v1, vs1, d1, ds1, p1, q1, rfl, rfl, rfl, h1, r1⟩ := trodAll_cons r0
  obtain ⟨rfl, rfl, rfl⟩ := trodAll_nil r1
  obtain rfl : args = #[v0, v1] := by cases args; simp_all
  obtain ⟨rfl, rfl⟩ := trodVars_none hV
  obtain ⟨l0, rfl, hl0⟩ := open_text (hval 0 _ _ rfl rfl) h0
  obtain ⟨a1, b1, rfl⟩ := open_type (hval 1 _ _ rfl rfl) h1
  refine (wordsLaw_ok l0 a1 b1 W).mono fun e W' ⟨he, hg⟩ => ⟨_, he, ?_⟩
  exact true_post laidOut hW' rfl rfl rfl Try.underlying4 (by kernel_rfl) hg.below
theorem kindsWords_over : Rows.kindsWordsRow.holds Try.pinned (OpenSpec.ofChange Rows.kindsWordsSpec) :=
  OpenClaim.holds_of_wide 4 Try.f4 rfl rfl rfl rfl rfl rfl rfl ⟨rfl, rfl, rfl, rfl, rfl⟩ rfl rfl rfl rfl rfl (by kernel_rfl) Try.func4 (by kernel_rfl)
    (of_decide_eq_true (by kernel_rfl)) (by unfold Func.isWrapper; first | (rw [if_pos (by decide +kernel)]; kernel_rfl) | (rw [if_neg (by decide +kernel)]; exact ⟨rfl, rfl⟩))
    (fun os started H enc _ => kindsWords_lifted os started H enc)
theorem kindsWords_proved : Rows.KindsWordsSaid := kindsWords_over
set_option maxRecDepth 100000 in
theorem kindsBack_lifted (os : Os) (started : os.Started) (H : Type) (enc : TypeId × Value → H) :
    ReturnsInHanded {} Try.checked os 5 .any (Rows.kindsBackSpec.pre6 enc Try.prog Try.f5 Rows.kindsBackRow.domain false) (Rows.kindsBackSpec.post enc Try.prog Try.f5 false true false false) := by
  refine returnsInHanded_of_change (C := Try.checked) own started (by kernel_rfl) Try.func5
    (ChangeSpec.witness6 (enc := enc) (C := Try.checked) false ⟨#[], #[st [], tyv 0 0], []⟩ 8 (by kernel_rfl) (by kernel_rfl) (by kernel_rfl) (by kernel_rfl)) ?_
  intro W base args ds gs before hval0 hW hcnd _
  have hval : ∀ (j : Nat) t v, Try.f5.params[j]? = some t → args[j]? = some v → Value.okWide Try.prog W .any base t v := hval0
  have hW' := hW
  obtain ⟨p, q, hA0, hV, rfl, hfz, hnd⟩ := hW
  have hA : DataW.TrodAll enc Try.prog W 0 (fun _ => true) true Try.f5.params.toList args.toList ds p := hA0
  rw [Try.params5] at hA hval
  obtain ⟨v0, vs0, d0, ds0, p0, q0, hargs, rfl, rfl, h0, r0⟩ := trodAll_cons hA
  obtain ⟨v1, vs1, d1, ds1, p1, q1, rfl, rfl, rfl, h1, r1⟩ := trodAll_cons r0
  obtain ⟨rfl, rfl, rfl⟩ := trodAll_nil r1
  obtain rfl : args = #[v0, v1] := by cases args; simp_all
  obtain ⟨rfl, rfl⟩ := trodVars_none hV
  obtain ⟨l0, rfl, hl0⟩ := open_text (hval 0 _ _ rfl rfl) h0
  obtain ⟨a1, b1, rfl⟩ := open_type (hval 1 _ _ rfl rfl) h1
  refine (backLaw_ok l0 a1 b1 W).mono fun e W' ⟨he, hg⟩ => ⟨_, he, ?_⟩
  exact true_post laidOut hW' rfl rfl rfl Try.underlying4 (by kernel_rfl) hg.below
theorem kindsBack_over : Rows.kindsBackRow.holds Try.pinned (OpenSpec.ofChange Rows.kindsBackSpec) :=
  OpenClaim.holds_of_wide 5 Try.f5 rfl rfl rfl rfl rfl rfl rfl ⟨rfl, rfl, rfl, rfl, rfl⟩ rfl rfl rfl rfl rfl (by kernel_rfl) Try.func5 (by kernel_rfl)
    (of_decide_eq_true (by kernel_rfl)) (by unfold Func.isWrapper; first | (rw [if_pos (by decide +kernel)]; kernel_rfl) | (rw [if_neg (by decide +kernel)]; exact ⟨rfl, rfl⟩))
    (fun os started H enc _ => kindsBack_lifted os started H enc)
theorem kindsBack_proved : Rows.KindsBackSaid := kindsBack_over
set_option maxRecDepth 100000 in
theorem kindsOperators_lifted (os : Os) (started : os.Started) (H : Type) (enc : TypeId × Value → H) :
    ReturnsInHanded {} Try.checked os 7 .any (Rows.kindsOperatorsSpec.pre6 enc Try.prog Try.f7 Rows.kindsOperatorsRow.domain false) (Rows.kindsOperatorsSpec.post enc Try.prog Try.f7 false true false false) := by
  refine returnsInHanded_of_change (C := Try.checked) own started (by kernel_rfl) Try.func7
    (ChangeSpec.witness6 (enc := enc) (C := Try.checked) false ⟨#[], #[st [], .agg #[.int .i64 0, .int .i64 0, .int .i64 0, .int .i64 0, .int .i64 0, .int .i64 0]], []⟩ 8 (by kernel_rfl) (by kernel_rfl) (by kernel_rfl) (by kernel_rfl)) ?_
  intro W base args ds gs before hval0 hW hcnd _
  have hval : ∀ (j : Nat) t v, Try.f7.params[j]? = some t → args[j]? = some v → Value.okWide Try.prog W .any base t v := hval0
  have hW' := hW
  obtain ⟨p, q, hA0, hV, rfl, hfz, hnd⟩ := hW
  have hA : DataW.TrodAll enc Try.prog W 0 (fun _ => true) true Try.f7.params.toList args.toList ds p := hA0
  rw [Try.params7] at hA hval
  obtain ⟨v0, vs0, d0, ds0, p0, q0, hargs, rfl, rfl, h0, r0⟩ := trodAll_cons hA
  obtain ⟨v1, vs1, d1, ds1, p1, q1, rfl, rfl, rfl, h1, r1⟩ := trodAll_cons r0
  obtain ⟨rfl, rfl, rfl⟩ := trodAll_nil r1
  obtain rfl : args = #[v0, v1] := by cases args; simp_all
  obtain ⟨rfl, rfl⟩ := trodVars_none hV
  obtain ⟨l0, rfl, hl0⟩ := open_text (hval 0 _ _ rfl rfl) h0
  obtain ⟨a1, b1, a2, b2, a3, b3, rfl⟩ := open_three (hval 1 _ _ rfl rfl) h1
  refine (operators_ok l0 a1 b1 a2 b2 a3 b3 W).mono fun e W' ⟨he, hg⟩ => ⟨_, he, ?_⟩
  exact true_post laidOut hW' rfl rfl rfl Try.underlying4 (by kernel_rfl) hg.below
theorem kindsOperators_over : Rows.kindsOperatorsRow.holds Try.pinned (OpenSpec.ofChange Rows.kindsOperatorsSpec) :=
  OpenClaim.holds_of_wide 7 Try.f7 rfl rfl rfl rfl rfl rfl rfl ⟨rfl, rfl, rfl, rfl, rfl⟩ rfl rfl rfl rfl rfl (by kernel_rfl) Try.func7 (by kernel_rfl)
    (of_decide_eq_true (by kernel_rfl)) (by unfold Func.isWrapper; first | (rw [if_pos (by decide +kernel)]; kernel_rfl) | (rw [if_neg (by decide +kernel)]; exact ⟨rfl, rfl⟩))
    (fun os started H enc _ => kindsOperators_lifted os started H enc)
theorem kindsOperators_proved : Rows.KindsOperatorsSaid := kindsOperators_over
#print axioms kindsWords_proved
#print axioms kindsBack_proved
#print axioms kindsOperators_proved
end Go.Proofs.Ytoicghljdndpeaa
