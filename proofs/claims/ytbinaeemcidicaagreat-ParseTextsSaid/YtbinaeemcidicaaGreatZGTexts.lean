/- Proved: ParseTextsSaid: the law ParseTexts returns true for every slice of texts, which reads behind the call as before. No condition. -/
import Derived.Test.YtbinaeemcidicaaGreatZFt
import Derived.Test.YtbinaeemcidicaaGreatZNG
set_option maxRecDepth 100000
set_option maxHeartbeats 16000000
namespace Go.Proofs.YtbinaeemcidicaaGreat
open Go.PB Go.ChangeShapes Go.WideShapes Go.ChangeAt Go.RowKit
attribute [local irreducible] Go.Calls
theorem open_strs {H : Type} {enc : TypeId × Value → H} {W : World} {r : Reach} {b0 base : Nat} {v : Value} {d : DataW H} {ps : List MemPlace} {sp : Nat → Bool} {held : Bool} (hval : Value.okWide Tryz.prog W r b0 24 v) (hd : DataW.Trod enc Tryz.prog W base sp held 24 v d ps) (hm : Mx W) :
  ∃ (l : List (List UInt8)) (R : List Ent), St [] W W R ∧ MxE R ∧ RdX R v l.length (strV l) ∧ l.length ≤ 9223372036854775807 ∧ ∀ s ∈ l, s.length ≤ 9223372036854775807 := by
 obtain ⟨a0, e0, f0, m, hw0, hw1⟩ := mx_ent hm
 rcases open_cells Tryz.underlying24 (show Tryz.prog.cellsOf 9 = 1 by kernel_rfl) Zf7 hval hd with ⟨p, k, rfl⟩ | ⟨b, off, cap, n, arr, et, fr, h0, h63, hlc, rfl, hb, hcs⟩
 ·exact ⟨[], [⟨0, false, .cells a0 e0 f0⟩], St.read hw0 [], ⟨a0, e0, f0, false, m, List.Mem.head _, hw1⟩, .inl ⟨p, k, rfl, rfl⟩, Nat.zero_le _, fun s h => by cases h⟩
 ·have hex : ∀ i, ∃ s : List UInt8, s.length ≤ 9223372036854775807 ∧ (i < n → arr[off + i]? = some (st s)) := fun i => by
   by_cases hi : i < n
   ·obtain ⟨cs, fuel, x, h1, h2, h3⟩ := hcs i hi
    obtain ⟨⟨⟨s⟩⟩, e3, _, hs⟩ := DataW.trod_string Tryz.underlying9 h2
    refine ⟨s, by simpa [maxLen, ByteArray.size] using hs, fun _ => ?_⟩
    have := h3 0 (st s) (by rw [e3]; rfl)
    rwa [Nat.mul_one, Nat.add_zero] at this
   ·exact ⟨[], Nat.zero_le _, fun h => absurd h hi⟩
  obtain ⟨g, hg⟩ := Classical.axiomOfChoice hex
  have hlen : ((List.range n).map g).length = n := by simp
  refine ⟨(List.range n).map g, [⟨0, false, .cells a0 e0 f0⟩, ⟨b, false, .cells arr et fr⟩], ⟨rfl, rfl, rfl, Nat.le_refl _, fun _ _ _ => rfl, fun p hp => ?_, by simp⟩, ⟨a0, e0, f0, false, m, List.Mem.head _, hw1⟩, ?_, by rw [hlen]; exact h63, fun s hs => ?_⟩
  ·rcases List.mem_cons.1 hp with rfl | hp
   ·exact ⟨hw0, fun h => by cases h⟩
   ·rcases List.mem_cons.1 hp with rfl | hp
    ·exact ⟨hb, fun h => by cases h⟩
    ·cases hp
  ·refine .inr ⟨b, off, cap, arr, et, fr, false, by rw [hlen], by simp, by rw [hlen]; exact hlc, fun j u hu => ?_⟩
   have hj : j < n := by
    obtain ⟨h, _⟩ := List.getElem?_eq_some_iff.1 hu
    simpa [strV] using h
   rw [strV_get (by rw [hlen]; exact hj)] at hu
   cases hu
   have : ((List.range n).map g).getD j [] = g j := by simp [List.getD, hj]
   rw [this]
   exact (hg j).2 hj
  ·obtain ⟨i, _, rfl⟩ := List.mem_map.1 hs
   exact (hg i).1
theorem parseTexts_lifted (os : Os) (started : os.Started) (H : Type) (enc : TypeId × Value → H) :
  ReturnsInHanded {} Tryz.checked os 4 .any (Rows.parseTextsSpec.pre6 enc Tryz.prog Tryz.f4 Rows.parseTextsRow.domain false) (Rows.parseTextsSpec.post enc Tryz.prog Tryz.f4 false true false false) := by
 refine returnsInHanded_of_change_shaped (C := Tryz.checked) own started Zl Tryz.func4
  (ChangeSpec.witness6 (enc := enc) (C := Tryz.checked) false ⟨#[], #[.slice none 0 0], []⟩ 8 Zl Zl Zl Zl) ?_
 intro W base args ds gs before hval0 hW _ _ hsh _
 have hval : ∀ (j : Nat) t v, Tryz.f4.params[j]? = some t → args[j]? = some v → Value.okWide Tryz.prog W .any base t v := hval0
 have hW' := hW
 obtain ⟨p, q, hA0, hV, rfl, hfz, hnd⟩ := hW
 have hA : DataW.TrodAll enc Tryz.prog W 0 (fun _ => true) true Tryz.f4.params.toList args.toList ds p := hA0
 rw [Tryz.params4] at hA hval
 obtain ⟨v0, vs0, d0, ds0, p0, q0, hargs, rfl, rfl, h0, r0⟩ := trodAll_cons hA
 obtain ⟨rfl, rfl, rfl⟩ := trodAll_nil r0
 obtain rfl : args = #[v0] := by cases args; simp_all
 obtain ⟨rfl, rfl⟩ := trodVars_none hV
 obtain ⟨n0, R0, y0, x0, w0, l0, z0⟩ := open_strs (hval 0 _ _ rfl rfl) h0 (Tryz.maxLen W hsh)
 refine (textsLaw_ok y0 x0 w0 l0 z0).mono fun e W' ⟨he, hg⟩ => ⟨_, he, ?_⟩
 exact true_post laidOut hW' rfl rfl rfl Tryz.underlying4 Zl hg.below
theorem parseTexts_over : Rows.parseTextsRow.holds Tryz.pinned (OpenSpec.ofChange Rows.parseTextsSpec) :=
 OpenClaim.holds_of_wide 4 Tryz.f4 rfl rfl rfl rfl rfl rfl rfl ⟨rfl, rfl, rfl, rfl, rfl⟩ rfl rfl rfl rfl rfl Zl Tryz.func4 Zl
  (of_decide_eq_true Zl) (by unfold Func.isWrapper; first | (rw [if_pos Zj]; kernel_rfl) | (rw [if_neg Zj]; exact ⟨rfl, rfl⟩))
  (fun os started H enc _ => parseTexts_lifted os started H enc)
theorem parseTexts_proved : Rows.ParseTextsSaid := parseTexts_over
#print axioms parseTexts_proved
end Go.Proofs.YtbinaeemcidicaaGreat
