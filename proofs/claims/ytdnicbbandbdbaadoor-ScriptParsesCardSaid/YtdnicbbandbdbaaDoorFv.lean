/- What the statements' frames want of rows of texts that came in. No condition. -/
import Derived.Test.YtdnicbbandbdbaaDoorFt
namespace Go.Proofs.YtdnicbbandbdbaaDoor
open Go.PB Go.ChangeShapes Go.WideShapes Go.ChangeAt Go.RowKit
attribute [local irreducible] Go.Calls
section
variable {H : Type} {enc : TypeId × Value → H} {W : World} {base : Nat} {sp : Nat → Bool} {held : Bool} {fuel : Nat} {cs : List Value} {x : DataW H × List MemPlace}
/-- a slice whose elements are told one by one, and that it is no longer than can be -/
theorem rdx_lenT {α : Type} {t e : TypeId} {c : Nat} {f : α → List Value} {ok : α → Prop} (d : α) (ht : Tryd.prog.underlying t = some (.slice e)) (hc : Tryd.prog.cellsOf e = c) (hc0 : 0 < c) (hfl : ∀ a, (f a).length = c)
    (he : ∀ fuel es x, DataW.trod enc Tryd.prog W base sp held fuel e es = some x → ∃ a, es = f a ∧ ok a) (hf : DataW.trod enc Tryd.prog W base sp held fuel t cs = some x) :
    ∃ (v : Value) (l : List α), cs = [v] ∧ RdX (allR W) v l.length (l.flatMap f) ∧ (∀ a ∈ l, ok a) ∧ l.length ≤ 9223372036854775807 := by
  obtain ⟨v', hv', h⟩ := slice_cells ht hc hc0 hf
  obtain ⟨v, l, h1, h2, h3⟩ := rdx_of d ht hc hc0 hfl he hf
  rw [hv'] at h1
  cases h1
  refine ⟨v', l, hv', h2, h3, ?_⟩
  rcases h with ⟨p, k, rfl⟩ | ⟨b, off, cap, n, arr, et, fr, h0, h63, hlc, rfl, hb, hcs⟩
  · obtain ⟨q, e, hq⟩ := h2.len
    have : 0 = l.length := (Value.slice.inj hq).2.1
    omega
  · obtain ⟨q, e, hq⟩ := h2.len
    have : n = l.length := (Value.slice.inj hq).2.1
    omega
set_option maxRecDepth 100000 in
theorem texts_of (hf : DataW.trod enc Tryd.prog W base sp held fuel 29 cs = some x) : ∃ v ls, cs = [v] ∧ RdX (allR W) v (List.length ls) (strV ls) ∧ ls.length ≤ 9223372036854775807 := by
  obtain ⟨v, l, h1, h2, h3, h4⟩ := rdx_lenT (f := fun s : List UInt8 => [st s]) (ok := fun _ => True) [] Tryd.underlying29 (show Tryd.prog.cellsOf 9 = 1 by kernel_rfl) (by decide) (fun _ => rfl) (fun fuel es x h => by
    obtain ⟨⟨⟨s⟩⟩, e3, _, _⟩ := DataW.trod_string Tryd.underlying9 h
    exact ⟨s, e3, trivial⟩) hf
  rw [flat_one] at h2
  exact ⟨v, l, h1, h2, h4⟩
set_option maxRecDepth 100000 in
theorem open_texts {r : Reach} {b0 : Nat} {v : Value} {d : DataW H} {ps : List MemPlace} (hval : Value.okWide Tryd.prog W r b0 29 v) (hd : DataW.Trod enc Tryd.prog W base sp held 29 v d ps) : ∃ ls, RdX (allR W) v (List.length ls) (strV ls) ∧ ls.length ≤ 9223372036854775807 := by
  obtain ⟨a, len, cap, rfl⟩ := okWide_slice Tryd.underlying29 hval
  obtain ⟨fuel, hf⟩ := hd
  obtain ⟨v, ls, h1, h2⟩ := texts_of hf
  have h1 : [Value.slice a len cap] = [v] := h1
  cases h1
  exact ⟨ls, h2⟩
end
end Go.Proofs.YtdnicbbandbdbaaDoor
