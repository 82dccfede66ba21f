/- Proved: LexPrintsSaid: the law LexPrints returns true for every input, and each argument reads behind the call as before. No condition. -/
import Derived.Test.YthmkggadgcdmfaaFr
import Derived.Test.YthmkggadgcdmfaaLR
namespace Go.Proofs.Ythmkggadgcdmfaa
open Go.PB Go.ChangeShapes Go.WideShapes Go.ChangeAt Go.RowKit
attribute [local irreducible] Go.Calls
set_option maxRecDepth 100000 in
theorem lexPrints_lifted (os : Os) (started : os.Started) (H : Type) (enc : TypeId × Value → H) :
    ReturnsInHanded {} Try.checked os 8 .any (Rows.lexPrintsSpec.pre6 enc Try.prog Try.f8 Rows.lexPrintsRow.domain false) (Rows.lexPrintsSpec.post enc Try.prog Try.f8 false true false false) := by
  refine returnsInHanded_of_change_shaped (C := Try.checked) own started (by kernel_rfl) Try.func8
    (ChangeSpec.witness6 (enc := enc) (C := Try.checked) false ⟨#[], #[.slice none 0 0], []⟩ 8 (by kernel_rfl) (by kernel_rfl) (by kernel_rfl) (by kernel_rfl)) ?_
  intro W base args ds gs before hval0 hW _ _ hsh _
  have hval : ∀ (j : Nat) t v, Try.f8.params[j]? = some t → args[j]? = some v → Value.okWide Try.prog W .any base t v := hval0
  have hW' := hW
  obtain ⟨p, q, hA0, hV, rfl, hfz, hnd⟩ := hW
  have hA : DataW.TrodAll enc Try.prog W 0 (fun _ => true) true Try.f8.params.toList args.toList ds p := hA0
  rw [Try.params8] at hA hval
  obtain ⟨v0, vs0, d0, ds0, p0, q0, hargs, rfl, rfl, h0, r0⟩ := trodAll_cons hA
  obtain ⟨rfl, rfl, rfl⟩ := trodAll_nil r0
  obtain rfl : args = #[v0] := by cases args; simp_all
  obtain ⟨rfl, rfl⟩ := trodVars_none hV
  obtain ⟨n0, y0, w0⟩ := open_toks (hval 0 _ _ rfl rfl) h0
  refine (printsLaw_ok v0 n0 w0 W y0 (Try.maxLen W hsh)).mono fun e W' ⟨he, hg⟩ => ⟨_, he, ?_⟩
  exact true_post laidOut hW' rfl rfl rfl Try.underlying4 (by kernel_rfl) hg.below
theorem lexPrints_over : Rows.lexPrintsRow.holds Try.pinned (OpenSpec.ofChange Rows.lexPrintsSpec) :=
  OpenClaim.holds_of_wide 8 Try.f8 rfl rfl rfl rfl rfl rfl rfl ⟨rfl, rfl, rfl, rfl, rfl⟩ rfl rfl rfl rfl rfl (by kernel_rfl) Try.func8 (by kernel_rfl)
    (of_decide_eq_true (by kernel_rfl)) (by unfold Func.isWrapper; first | (rw [if_pos (by decide +kernel)]; kernel_rfl) | (rw [if_neg (by decide +kernel)]; exact ⟨rfl, rfl⟩))
    (fun os started H enc _ => lexPrints_lifted os started H enc)
theorem lexPrints_proved : Rows.LexPrintsSaid := lexPrints_over
#print axioms lexPrints_proved
end Go.Proofs.Ythmkggadgcdmfaa
