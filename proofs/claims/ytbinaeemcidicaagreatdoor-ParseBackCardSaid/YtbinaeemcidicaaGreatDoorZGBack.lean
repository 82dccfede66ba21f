/- Proved: ParseBackCardSaid: the law ParseBack returns true for every input, and each argument reads behind the call as before. Condition: the listed tables of the library lie as the program's text lays them (the card ties that). -/
import Derived.Test.YtbinaeemcidicaaGreatDoorZFr
set_option maxRecDepth 100000
set_option maxHeartbeats 16000000
namespace Go.Proofs.YtbinaeemcidicaaGreatDoor
open Go.PB Go.ChangeShapes Go.WideShapes Go.ChangeAt Go.RowKit
attribute [local irreducible] Go.Calls
theorem parseBack_lifted (os : Os) (started : os.Started) (H : Type) (enc : TypeId × Value → H) :
  ReturnsInHanded {} Tryz.checked os 4 .any (fun w args => (Rows.parseBackSpec.pre enc Tryz.prog Tryz.f4 Rows.parseBackRow.domain false w args ∧ laidMetH Tryz.prog laidL w) ∧ sizedMet enc Tryz.prog Tryz.f4 (OpenSpec.ofChange Rows.parseBackSpec) false w args)
   (Rows.parseBackSpec.post enc Tryz.prog Tryz.f4 false true false false) := by
 refine lifted_of (C := Tryz.checked) (X := fun w _ => laidMetH Tryz.prog laidL w) (fun _ _ _ hh h => h.of_heap hh) own started Zj Tryz.func4
  (ChangeSpec.witness_shaped (enc := enc) (C := Tryz.checked) (os := os) (X := fun w _ => laidMetH Tryz.prog laidL w) false (World.laidAll Tryz.prog os laidL) #[.string ⟨#[]⟩] 8 (World.laidAll_os _ _ _)
   (World.shaped_of_ZipB Zj Zj) Zj Zj Zj
   (by rw [MakeChecks.laidMetH_plain _ _ _ Zj]; exact laidMet_laidAll _ Zj Zj)) ?_
 intro W base args ds gs before hval0 hW hz hsh hL
 have hval : ∀ (j : Nat) t v, Tryz.f4.params[j]? = some t → args[j]? = some v → Value.okWide Tryz.prog W .any base t v := hval0
 have hW' := hW
 obtain ⟨p, q, hA0, hV, rfl, _, _⟩ := hW
 have hA : DataW.TrodAll enc Tryz.prog W 0 (fun _ => true) true Tryz.f4.params.toList args.toList ds p := hA0
 rw [Tryz.params4] at hA hval
 obtain ⟨v0, vs0, d0, ds0, p0, q0, hargs, rfl, rfl, h0, r0⟩ := trodAll_cons hA
 obtain ⟨rfl, rfl, rfl⟩ := trodAll_nil r0
 obtain rfl : args = #[v0] := by cases args; simp_all
 obtain ⟨rfl, rfl⟩ := trodVars_none hV
 obtain ⟨x0, rfl, w0⟩ := open_text (hval 0 _ _ rfl rfl) h0
 refine (backLawP_ok x0 w0 W (Tryz.maxLen W hsh) (pows hL)).mono fun e W' ⟨he, hg⟩ => ⟨_, he, ?_⟩
 exact true_post laidOut hW' rfl rfl rfl Tryz.underlying4 Zj hg.below
theorem parseBack_over : Rows.parseBackRow.holds Tryz.pinned (OpenSpec.ofChange Rows.parseBackSpec) :=
 OpenClaim.holds_of_wide 4 Tryz.f4 rfl rfl rfl rfl rfl rfl rfl ⟨rfl, rfl, rfl, rfl, rfl⟩ rfl rfl rfl rfl rfl Zj Tryz.func4 Zj
  (of_decide_eq_true Zj) (by unfold Func.isWrapper; first | (rw [if_pos Zk]; kernel_rfl) | (rw [if_neg Zk]; exact ⟨rfl, rfl⟩))
  (fun os started H enc _ => parseBack_lifted os started H enc)
theorem parseBack_proved : Rows.ParseBackCardSaid :=
 Claim7.holds_tied_plain_at .later [] [.data, .data, .data, .data, .pinned] true _ false parseBack_over (fun _ h => by cases h) Zj (fun _ h => by cases h) parseBack_row_tie rfl ⟨rfl, rfl⟩ Zj rfl
  (fun f fn hf hfn => by
   obtain rfl : f = 4 := Option.some.inj ((show Tryz.prog.funcNamed Rows.parseBackRow.func = some 4 by kernel_rfl).symm.trans hf) |>.symm
   obtain rfl : fn = Tryz.f4 := (Option.some.inj (Tryz.func4.symm.trans hfn)).symm
   exact ⟨by kernel_rfl, fun j t ht => by
    rw [Tryz.params4] at ht
    have hm : t ∈ [9] := by simpa using Array.mem_of_getElem? ht
    have hall : ([9].all fun u => !Tryz.prog.wantsStandIn u) = true := by kernel_rfl
    exact (show Tryz.prog.wantsStandIn t = false by simpa using List.all_eq_true.1 hall t hm)⟩)
  Zj
#print axioms parseBack_proved
end Go.Proofs.YtbinaeemcidicaaGreatDoor
