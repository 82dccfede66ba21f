/- What the statements' frames want of slices: bytes, tokens that came in. No condition. -/
import Derived.Test.YthmkggadgcdmfaaFr
import Derived.Test.YthmkggadgcdmfaaLK
namespace Go.Proofs.Ythmkggadgcdmfaa
open Go.PB Go.ChangeShapes Go.WideShapes Go.ChangeAt Go.RowKit
attribute [local irreducible] Go.Calls
/-- a slice that came in: nothing, or cells in a block -/
theorem open_cells {P : Program} {H : Type} {enc : TypeId × Value → H} {W : World} {r : Reach} {b0 base c : Nat} {t e : TypeId} {v : Value} {d : DataW H} {ps : List MemPlace} {sp : Nat → Bool} {held : Bool} (ht : P.underlying t = some (.slice e)) (hc : P.cellsOf e = c) (hc0 : 0 < c)
    (hval : Value.okWide P W r b0 t v) (hd : DataW.Trod enc P W base sp held t v d ps) :
    (∃ p k, v = .slice p 0 k) ∨ ∃ b off cap n arr et fr, 0 < n ∧ n ≤ 9223372036854775807 ∧ n ≤ cap ∧ v = .slice (some ⟨b, off, none⟩) n cap ∧ W.heap[b]? = some (.cells arr et fr) ∧
      ∀ i, i < n → ∃ cs fuel x, cs.length = c ∧ DataW.trod enc P W base sp held fuel e cs = some x ∧ ∀ j u, cs[j]? = some u → arr[off + (i * c + j)]? = some u := by
  obtain ⟨a, len, cap, rfl⟩ := okWide_slice ht hval
  obtain ⟨fuel, hf⟩ := hd
  rcases DataW.trod_slice ht hf with ⟨h, _⟩ | ⟨ad, len', cap', elems, rest, n, _, h, _, _, hlc, hcm, hel, hels, _⟩
  · simp [Value.cells] at h
    obtain ⟨rfl, rfl, rfl⟩ := h
    exact .inl ⟨_, _, rfl⟩
  · simp [Value.cells] at h
    obtain ⟨rfl, rfl, rfl⟩ := h
    rcases Nat.eq_zero_or_pos len with h0 | h0
    · exact .inl ⟨_, _, by rw [h0]⟩
    · have hcell : ∀ i, i < len → ∃ cs, cs.length = c ∧ (∃ x, DataW.trod enc P W base sp held n e cs = some x) ∧ ∀ j, j < c → W.cell? ((ad.add (i * c)).add j) = cs[j]? := fun i hi => by
        have h1 := hels i hi
        rw [hc, List.getElem?_eq_getElem (by omega)] at h1
        obtain ⟨cs, hcs, htr⟩ := Option.bind_eq_some_iff.1 h1
        obtain ⟨_, h2, h3⟩ := World.cells?_some hcs
        exact ⟨cs, h2, ⟨_, htr⟩, fun j hj => by rw [h3 j hj]⟩
      obtain ⟨g, off, spot⟩ := ad
      obtain ⟨cs0, hl0, _, hg0⟩ := hcell 0 h0
      have h00 := hg0 0 hc0
      rw [List.getElem?_eq_getElem (by omega)] at h00
      have h01 : W.cell? ⟨g, off, spot⟩ = some cs0[0] := by simpa [Addr.add] using h00
      have hs : spot = none ∧ ∃ c e fr, W.heap[g]? = some (.cells c e fr) := by
        unfold World.cell? at h01
        split at h01
        · rename_i c e fr hcell
          split at h01
          · cases h01
          · rename_i hsp
            exact ⟨by simpa using hsp, c, e, fr, hcell⟩
        · cases h01
      obtain ⟨rfl, arr, et, fr, hcl⟩ := hs
      refine .inr ⟨g, off, cap, len, arr, et, fr, h0, by simp only [maxLen] at hcm; omega, by omega, rfl, hcl, fun i hi => ?_⟩
      obtain ⟨cs, h1, ⟨x, h2⟩, h3⟩ := hcell i hi
      refine ⟨cs, n, x, h1, h2, fun j u hj => ?_⟩
      have hjl : j < c := by
        obtain ⟨h, _⟩ := List.getElem?_eq_some_iff.1 hj
        omega
      have := h3 j hjl
      rw [hj, add_lit, add_lit, cell_cells hcl, Nat.add_assoc] at this
      exact this
theorem open_byts {H : Type} {enc : TypeId × Value → H} {W : World} {r : Reach} {b0 base : Nat} {v : Value} {d : DataW H} {ps : List MemPlace} {sp : Nat → Bool} {held : Bool} (hval : Value.okWide Try.prog W r b0 35 v) (hd : DataW.Trod enc Try.prog W base sp held 35 v d ps) :
    ∃ n, BytAt W v n ∧ n ≤ 9223372036854775807 := by
  rcases open_cells Try.underlying35 (show Try.prog.cellsOf 5 = 1 by kernel_rfl) (by decide) hval hd with ⟨p, k, rfl⟩ | ⟨b, off, cap, n, arr, et, fr, h0, h63, hlc, rfl, hb, hcs⟩
  · exact ⟨0, .inl ⟨p, k, rfl, rfl⟩, Nat.zero_le _⟩
  · refine ⟨n, .inr ⟨b, off, cap, arr, et, fr, rfl, hb, fun j hj => ?_⟩, h63⟩
    obtain ⟨cs, fuel, x, h1, h2, h3⟩ := hcs j hj
    obtain ⟨m, rfl, _, hwf⟩ := DataW.trod_int Try.underlying5 h2
    have hr : 0 ≤ m ∧ m ≤ 255 := by
      simp [Lit.wf, IntKind.min, IntKind.max, IntKind.signed, IntKind.bits] at hwf
      omega
    refine ⟨UInt8.ofNat m.toNat, ?_⟩
    have := h3 0 _ rfl
    rw [Nat.mul_one, Nat.add_zero] at this
    rw [this]
    congr 2
    simp only [UInt8.toNat_ofNat']
    omega
end Go.Proofs.Ythmkggadgcdmfaa
