/- Proved: ParseSameUptoSaid: the law ParseSame returns true for every two trees of bulk at most 1048576, and each argument reads behind the call as before. Condition: that bulk. -/
import Derived.Test.YtbinaeemcidicaaZFq
import Derived.Test.YtbinaeemcidicaaZRD
namespace Go.Proofs.Ytbinaeemcidicaa
open Go.PB Go.ChangeShapes Go.WideShapes Go.ChangeAt Go.RowKit
attribute [local irreducible] Go.Calls
set_option maxRecDepth 100000 in
theorem parseSame_lifted (os : Os) (started : os.Started) (H : Type) (enc : TypeId × Value → H) (F : Stop.Interp) :
    ReturnsInHanded {} Try.checked os 7 .any ((Rows.OpenSpec.upto Rows.parseSameSpec).pre6 enc Try.prog Try.f7 Rows.parseSameUptoRow.domain false) (((Rows.OpenSpec.upto Rows.parseSameSpec).at F).post enc Try.prog Try.f7 false true false false) := by
  refine handed_cond_shaped (C := Try.checked) (s := Rows.OpenSpec.upto Rows.parseSameSpec) (k := Rows.uptoSmall) rfl own started (by kernel_rfl) Try.func7
    (OpenSpec.witness (enc := enc) (C := Try.checked) (s := Rows.OpenSpec.upto Rows.parseSameSpec) (k := Rows.uptoSmall) rfl false ⟨#[], #[.agg #[.slice none 0 0], .agg #[.slice none 0 0]], []⟩ 8 (by kernel_rfl) (by kernel_rfl) (by kernel_rfl)
      (x := ([.agg [.nil], .agg [.nil]], [], [])) (by kernel_rfl) rfl (by kernel_rfl)) ?_
  intro W base args ds gs before hval0 hW hk hsh
  have hval : ∀ (j : Nat) t v, Try.f7.params[j]? = some t → args[j]? = some v → Value.okWide Try.prog W .any base t v := hval0
  have hW' : DataW.Whole enc Try.prog Try.f7.params.toList Rows.parseSameSpec.vars false W args.toList ds gs before := hW
  obtain ⟨p, q, hA0, hV, rfl, hfz, hnd⟩ := hW
  have hA : DataW.TrodAll enc Try.prog W 0 (fun _ => true) true Try.f7.params.toList args.toList ds p := hA0
  rw [Try.params7] at hA hval
  obtain ⟨v0, vs0, d0, ds0, p0, q0, hargs, rfl, rfl, h0, r0⟩ := trodAll_cons hA
  obtain ⟨v1, vs1, d1, ds1, p1, q1, rfl, rfl, rfl, h1, r1⟩ := trodAll_cons r0
  obtain ⟨rfl, rfl, rfl⟩ := trodAll_nil r1
  obtain rfl : args = #[v0, v1] := by cases args; simp_all
  obtain ⟨rfl, rfl⟩ := trodVars_none hV
  have hb : Rows.uptoBulkAll ([d0, d1] ++ ([] : List (DataW H))) ≤ 1048576 := of_decide_eq_true hk
  have hb0 : Rows.uptoBulk d0 ≤ 1048576 := Nat.le_trans (part_le (by simp)) hb
  have hb1 : Rows.uptoBulk d1 ≤ 1048576 := Nat.le_trans (part_le (by simp)) hb
  obtain ⟨tv, l, rfl, l1, l2, l3⟩ := open_tree hb0 (hval 0 _ _ rfl rfl) h0
  obtain ⟨tu, m, rfl, m1, m2, m3⟩ := open_tree hb1 (hval 1 _ _ rfl rfl) h1
  refine (sameLaw_ok (St_all W) l2 m2 (Try.maxLen W hsh) (fun y hy => (l3 y hy).2.1) (fun y hy => (m3 y hy).2.1) (fun y hy => (l3 y hy).2.2) (fun y hy => (m3 y hy).2.2) (by omega) (by omega)).mono fun e W' ⟨he, hg⟩ => ⟨_, he, ?_⟩
  exact true_post (s := Rows.parseSameSpec) laidOut hW' rfl rfl rfl Try.underlying4 (by kernel_rfl) hg.below
theorem parseSame_proved : Rows.ParseSameUptoSaid :=
  OpenClaim.holds_of_cond 7 Try.f7 rfl rfl rfl rfl rfl rfl rfl ⟨rfl, rfl, rfl, rfl, rfl⟩ rfl rfl rfl rfl rfl (by kernel_rfl) Try.func7 (by kernel_rfl)
    (of_decide_eq_true (by kernel_rfl)) (by unfold Func.isWrapper; first | (rw [if_pos (by decide +kernel)]; kernel_rfl) | (rw [if_neg (by decide +kernel)]; exact ⟨rfl, rfl⟩))
    (fun os started H enc _ F => parseSame_lifted os started H enc F)
#print axioms parseSame_proved
end Go.Proofs.Ytbinaeemcidicaa
