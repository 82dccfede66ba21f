/- Proved: ParseTokensSaid: the law ParseTokens returns true for every slice of tokens, which reads behind the call as before. No condition. -/
import Derived.Test.YtbinaeemcidicaaGreatZFt
set_option maxRecDepth 100000
set_option maxHeartbeats 16000000
namespace Go.Proofs.YtbinaeemcidicaaGreat
open Go.PB Go.ChangeShapes Go.WideShapes Go.ChangeAt Go.RowKit
attribute [local irreducible] Go.Calls
theorem parseTokens_lifted (os : Os) (started : os.Started) (H : Type) (enc : TypeId × Value → H) :
    ReturnsInHanded {} Tryz.checked os 3 .any (Rows.parseTokensSpec.pre6 enc Tryz.prog Tryz.f3 Rows.parseTokensRow.domain false) (Rows.parseTokensSpec.post enc Tryz.prog Tryz.f3 false true false false) := by
  refine returnsInHanded_of_change_shaped (C := Tryz.checked) own started Zl Tryz.func3
    (ChangeSpec.witness6 (enc := enc) (C := Tryz.checked) false ⟨#[], #[.slice none 0 0], []⟩ 8 Zl Zl Zl Zl) ?_
  intro W base args ds gs before hval0 hW _ _ hsh _
  have hval : ∀ (j : Nat) t v, Tryz.f3.params[j]? = some t → args[j]? = some v → Value.okWide Tryz.prog W .any base t v := hval0
  have hW' := hW
  obtain ⟨p, q, hA0, hV, rfl, hfz, hnd⟩ := hW
  have hA : DataW.TrodAll enc Tryz.prog W 0 (fun _ => true) true Tryz.f3.params.toList args.toList ds p := hA0
  rw [Tryz.params3] at hA hval
  obtain ⟨v0, vs0, d0, ds0, p0, q0, hargs, rfl, rfl, h0, r0⟩ := trodAll_cons hA
  obtain ⟨rfl, rfl, rfl⟩ := trodAll_nil r0
  obtain rfl : args = #[v0] := by cases args; simp_all
  obtain ⟨rfl, rfl⟩ := trodVars_none hV
  obtain ⟨n0, y0, w0, z0⟩ := open_toks0 (hval 0 _ _ rfl rfl) h0
  refine (tokensLaw_ok v0 n0 w0 z0 W y0 (Tryz.maxLen W hsh)).mono fun e W' ⟨he, hg⟩ => ⟨_, he, ?_⟩
  exact true_post laidOut hW' rfl rfl rfl Tryz.underlying4 Zl hg.below
theorem parseTokens_over : Rows.parseTokensRow.holds Tryz.pinned (OpenSpec.ofChange Rows.parseTokensSpec) :=
  OpenClaim.holds_of_wide 3 Tryz.f3 rfl rfl rfl rfl rfl rfl rfl ⟨rfl, rfl, rfl, rfl, rfl⟩ rfl rfl rfl rfl rfl Zl Tryz.func3 Zl
    (of_decide_eq_true Zl) (by unfold Func.isWrapper; first | (rw [if_pos Zj]; kernel_rfl) | (rw [if_neg Zj]; exact ⟨rfl, rfl⟩))
    (fun os started H enc _ => parseTokens_lifted os started H enc)
theorem parseTokens_proved : Rows.ParseTokensSaid := parseTokens_over
#print axioms parseTokens_proved
end Go.Proofs.YtbinaeemcidicaaGreat
