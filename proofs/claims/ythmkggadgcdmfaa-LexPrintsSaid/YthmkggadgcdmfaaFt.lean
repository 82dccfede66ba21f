/- What the statements' frames want of slices of tokens that came in. No condition. -/
import Derived.Test.YthmkggadgcdmfaaFs
import Derived.Test.YthmkggadgcdmfaaLN
namespace Go.Proofs.Ythmkggadgcdmfaa
open Go.PB Go.ChangeShapes Go.WideShapes Go.ChangeAt Go.RowKit
attribute [local irreducible] Go.Calls
theorem open_toks {H : Type} {enc : TypeId × Value → H} {W : World} {r : Reach} {b0 base : Nat} {v : Value} {d : DataW H} {ps : List MemPlace} {sp : Nat → Bool} {held : Bool} (hval : Value.okWide Try.prog W r b0 24 v) (hd : DataW.Trod enc Try.prog W base sp held 24 v d ps) :
    ∃ l : List Ti, TiAt W v l ∧ l.length ≤ 9223372036854775807 ∧ ∀ p m c, v = .slice p m c → m ≤ c := by
  rcases open_cells Try.underlying24 (show Try.prog.cellsOf 33 = 5 by kernel_rfl) (by decide) hval hd with ⟨p, k, rfl⟩ | ⟨b, off, cap, n, arr, et, fr, h0, h63, hlc, rfl, hb, hcs⟩
  · exact ⟨[], .inl ⟨p, k, rfl, rfl⟩, Nat.zero_le _, fun _ _ _ h => by cases h; exact Nat.zero_le _⟩
  · have hex : ∀ i, ∃ t : Ti, i < n → ∀ f u, (tiC t)[f]? = some u → arr[off + (i * 5 + f)]? = some u := fun i => by
      by_cases hi : i < n
      · obtain ⟨cs, fuel, x, h1, h2, h3⟩ := hcs i hi
        obtain ⟨xs, m, _, _, _, hlen, hf⟩ := DataW.trod_struct Try.underlying33 h2
        have f0 : DataW.trod enc Try.prog W base sp held m 3 ((cs.drop 0).take (Try.prog.cellsOf 3)) = xs[0]? := hf 0 _ rfl
        have f1 : DataW.trod enc Try.prog W base sp held m 9 ((cs.drop 1).take (Try.prog.cellsOf 9)) = xs[1]? := hf 1 _ rfl
        have f2 : DataW.trod enc Try.prog W base sp held m 31 ((cs.drop 2).take (Try.prog.cellsOf 31)) = xs[2]? := hf 2 _ rfl
        have f3 : DataW.trod enc Try.prog W base sp held m 3 ((cs.drop 3).take (Try.prog.cellsOf 3)) = xs[3]? := hf 3 _ rfl
        have f4 : DataW.trod enc Try.prog W base sp held m 3 ((cs.drop 4).take (Try.prog.cellsOf 3)) = xs[4]? := hf 4 _ rfl
        rw [List.getElem?_eq_getElem (by rw [hlen]; decide)] at f0 f1 f2 f3 f4
        obtain ⟨k, e0, _, _⟩ := DataW.trod_int Try.underlying3 f0
        obtain ⟨s, e1, _, _⟩ := DataW.trod_string Try.underlying9 f1
        obtain ⟨z, e2, _, _⟩ := DataW.trod_int Try.underlying31 f2
        obtain ⟨a, e3, _, _⟩ := DataW.trod_int Try.underlying3 f3
        obtain ⟨c, e4, _, _⟩ := DataW.trod_int Try.underlying3 f4
        have c1 : Try.prog.cellsOf 3 = 1 := by kernel_rfl
        have c2 : Try.prog.cellsOf 9 = 1 := by kernel_rfl
        have c3 : Try.prog.cellsOf 31 = 1 := by kernel_rfl
        simp only [c1, c2, c3] at e0 e1 e2 e3 e4
        match cs, h1 with
        | [v0, v1, v2, v3, v4], _ =>
          simp at e0 e1 e2 e3 e4
          subst e0 e1 e2 e3 e4
          obtain ⟨⟨bs⟩⟩ := s
          exact ⟨⟨k, bs, z, a, c⟩, fun _ f u h => h3 f u h⟩
      · exact ⟨⟨0, [], 0, 0, 0⟩, fun h => absurd h hi⟩
    obtain ⟨g, hg⟩ := Classical.axiomOfChoice hex
    refine ⟨(List.range n).map g, .inr ⟨b, off, cap, arr, et, fr, by simp, hb, fun j u hj => ?_⟩, by simpa using h63, fun _ _ _ h => by cases h; exact hlc⟩
    obtain ⟨i, f, rfl, hi, hu⟩ := tisC_inv hj
    simp only [List.length_map, List.length_range] at hi
    refine hg i hi f u ?_
    simpa [List.getD, hi] using hu
end Go.Proofs.Ythmkggadgcdmfaa
