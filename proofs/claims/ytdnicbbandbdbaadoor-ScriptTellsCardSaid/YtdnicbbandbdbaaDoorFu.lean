/- What the statements' frames want of what a layer told that came in. No condition. -/
import Derived.Test.YtdnicbbandbdbaaDoorFt
namespace Go.Proofs.YtdnicbbandbdbaaDoor
open Go.PB Go.ChangeShapes Go.WideShapes Go.ChangeAt Go.RowKit
attribute [local irreducible] Go.Calls
section
variable {H : Type} {enc : TypeId × Value → H} {W : World} {base : Nat} {sp : Nat → Bool} {held : Bool} {fuel : Nat} {cs : List Value} {x : DataW H × List MemPlace}
set_option maxRecDepth 100000 in
theorem back_of (h2 : DataW.trod enc Tryd.prog W base sp held fuel 42 cs = some x) : ∃ iv bv is bs, cs = [iv, bv] ∧ RdX (allR W) iv (List.length is) (intV is) ∧ RdX (allR W) bv (List.length bs) (bytV bs) ∧ ∀ n ∈ is, inI64 n := by
  obtain ⟨xs, m, _, _, h1, hlen, hf⟩ := DataW.trod_struct Tryd.underlying42 h2
  have c4 : Tryd.prog.cellsOf 42 = 2 := by kernel_rfl
  rw [c4] at h1
  have f0 : DataW.trod enc Tryd.prog W base sp held m 39 ((cs.drop 0).take (Tryd.prog.cellsOf 39)) = xs[0]? := hf 0 _ rfl
  have f1 : DataW.trod enc Tryd.prog W base sp held m 40 ((cs.drop 1).take (Tryd.prog.cellsOf 40)) = xs[1]? := hf 1 _ rfl
  rw [List.getElem?_eq_getElem (by rw [hlen]; decide)] at f0 f1
  have c3 : Tryd.prog.cellsOf 39 = 1 := by kernel_rfl
  have c5 : Tryd.prog.cellsOf 40 = 1 := by kernel_rfl
  rw [c3] at f0
  rw [c5] at f1
  match cs, h1 with
  | [v0, v1], _ =>
    obtain ⟨iv, is, e1, hi, hn⟩ := ints_of f0
    obtain ⟨bv, bs, e2, hb⟩ := byts_of f1
    simp at e1 e2
    subst e1 e2
    exact ⟨v0, v1, is, bs, rfl, hi, hb, hn⟩
set_option maxRecDepth 100000 in
theorem open_back {r : Reach} {b0 : Nat} {v : Value} {d : DataW H} {ps : List MemPlace} (hval : Value.okWide Tryd.prog W r b0 42 v) (hd : DataW.Trod enc Tryd.prog W base sp held 42 v d ps) :
    ∃ iv bv is bs, v = .agg #[iv, bv] ∧ RdX (allR W) iv (List.length is) (intV is) ∧ RdX (allR W) bv (List.length bs) (bytV bs) ∧ ∀ n ∈ is, inI64 n := by
  obtain ⟨⟨cs⟩, rfl, _⟩ := okWide_struct Tryd.underlying42 hval
  obtain ⟨fuel, hf⟩ := hd
  obtain ⟨iv, bv, is, bs, h1, h2⟩ := back_of hf
  have h1 : cs = [iv, bv] := h1
  subst h1
  exact ⟨iv, bv, is, bs, rfl, h2⟩
end
end Go.Proofs.YtdnicbbandbdbaaDoor
