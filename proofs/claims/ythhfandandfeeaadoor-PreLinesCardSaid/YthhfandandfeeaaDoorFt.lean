/- What the statements' frames want of slices of tokens that came in. No condition. -/
import Derived.Test.YthhfandandfeeaaDoorFr
import Derived.Test.YthhfandandfeeaaDoorNC
namespace Go.Proofs.YthhfandandfeeaaDoor
open Go.PB Go.ChangeShapes Go.WideShapes Go.ChangeAt Go.RowKit
attribute [local irreducible] Go.Calls
/-- a slice that came in: nothing, or cells in a block -/
theorem open_cells {P : Program} {H : Type} {enc : TypeId × Value → H} {W : World} {r : Reach} {b0 base c : Nat} {t e : TypeId} {v : Value} {d : DataW H} {ps : List MemPlace} {sp : Nat → Bool} {held : Bool} (ht : P.underlying t = some (.slice e)) (hc : P.cellsOf e = c) (hc0 : 0 < c)
    (hval : Value.okWide P W r b0 t v) (hd : DataW.Trod enc P W base sp held t v d ps) :
    (∃ p k, v = .slice p 0 k) ∨ ∃ b off cap n arr et fr, 0 < n ∧ n ≤ 9223372036854775807 ∧ n ≤ cap ∧ v = .slice (some ⟨b, off, none⟩) n cap ∧ W.heap[b]? = some (.cells arr et fr) ∧
      ∀ i, i < n → ∃ cs fuel x, cs.length = c ∧ DataW.trod enc P W base sp held fuel e cs = some x ∧ ∀ j u, cs[j]? = some u → arr[off + (i * c + j)]? = some u := by
  obtain ⟨a, len, cap, rfl⟩ := okWide_slice ht hval
  obtain ⟨fuel, hf⟩ := hd
  rcases DataW.trod_slice ht hf with ⟨h, _⟩ | ⟨ad, len', cap', elems, rest, n, _, h, _, _, hlc, hcm, hel, hels, _⟩
  · simp [Value.cells] at h
    obtain ⟨rfl, rfl, rfl⟩ := h
    exact .inl ⟨_, _, rfl⟩
  · simp [Value.cells] at h
    obtain ⟨rfl, rfl, rfl⟩ := h
    rcases Nat.eq_zero_or_pos len with h0 | h0
    · exact .inl ⟨_, _, by rw [h0]⟩
    · have hcell : ∀ i, i < len → ∃ cs, cs.length = c ∧ (∃ x, DataW.trod enc P W base sp held n e cs = some x) ∧ ∀ j, j < c → W.cell? ((ad.add (i * c)).add j) = cs[j]? := fun i hi => by
        have h1 := hels i hi
        rw [hc, List.getElem?_eq_getElem (by omega)] at h1
        obtain ⟨cs, hcs, htr⟩ := Option.bind_eq_some_iff.1 h1
        obtain ⟨_, h2, h3⟩ := World.cells?_some hcs
        exact ⟨cs, h2, ⟨_, htr⟩, fun j hj => by rw [h3 j hj]⟩
      obtain ⟨g, off, spot⟩ := ad
      obtain ⟨cs0, hl0, _, hg0⟩ := hcell 0 h0
      have h00 := hg0 0 hc0
      rw [List.getElem?_eq_getElem (by omega)] at h00
      have h01 : W.cell? ⟨g, off, spot⟩ = some cs0[0] := by simpa [Addr.add] using h00
      have hs : spot = none ∧ ∃ c e fr, W.heap[g]? = some (.cells c e fr) := by
        unfold World.cell? at h01
        split at h01
        · rename_i c e fr hcell
          split at h01
          · cases h01
          · rename_i hsp
            exact ⟨by simpa using hsp, c, e, fr, hcell⟩
        · cases h01
      obtain ⟨rfl, arr, et, fr, hcl⟩ := hs
      refine .inr ⟨g, off, cap, len, arr, et, fr, h0, by simp only [maxLen] at hcm; omega, by omega, rfl, hcl, fun i hi => ?_⟩
      obtain ⟨cs, h1, ⟨x, h2⟩, h3⟩ := hcell i hi
      refine ⟨cs, n, x, h1, h2, fun j u hj => ?_⟩
      have hjl : j < c := by
        obtain ⟨h, _⟩ := List.getElem?_eq_some_iff.1 hj
        omega
      have := h3 j hjl
      rw [hj, add_lit, add_lit, cell_cells hcl, Nat.add_assoc] at this
      exact this
theorem tisC_inv : ∀ {l : List Ti} {j : Nat} {u : Value}, (tisC l)[j]? = some u → ∃ i f, j = i * 5 + f ∧ i < l.length ∧ (tiC (l.getD i ⟨0, [], 0, 0, 0⟩))[f]? = some u
  | [], j, u, h => by simp [tisC] at h
  | t :: l, j, u, h => by
    rw [show tisC (t :: l) = tiC t ++ tisC l from rfl] at h
    have h5 : (tiC t).length = 5 := rfl
    by_cases hj : j < 5
    · rw [List.getElem?_append_left (by omega)] at h
      exact ⟨0, j, by omega, by simp, by simpa using h⟩
    · rw [List.getElem?_append_right (by omega), h5] at h
      obtain ⟨i, f, h1, h2, h3⟩ := tisC_inv h
      exact ⟨i + 1, f, by omega, by simpa using h2, by simpa using h3⟩
set_option maxRecDepth 100000 in
theorem open_toks0 {H : Type} {enc : TypeId × Value → H} {W : World} {r : Reach} {b0 base : Nat} {v : Value} {d : DataW H} {ps : List MemPlace} {sp : Nat → Bool} {held : Bool} (hval : Value.okWide Tryd.prog W r b0 23 v) (hd : DataW.Trod enc Tryd.prog W base sp held 23 v d ps) :
    ∃ l : List Ti, TiAt W v l ∧ l.length ≤ 9223372036854775807 ∧ ∀ p m c, v = .slice p m c → m ≤ c := by
  rcases open_cells Tryd.underlying23 (show Tryd.prog.cellsOf 35 = 5 by kernel_rfl) (by decide) hval hd with ⟨p, k, rfl⟩ | ⟨b, off, cap, n, arr, et, fr, h0, h63, hlc, rfl, hb, hcs⟩
  · exact ⟨[], .inl ⟨p, k, rfl, rfl⟩, Nat.zero_le _, fun _ _ _ h => by cases h; exact Nat.zero_le _⟩
  · have hex : ∀ i, ∃ t : Ti, i < n → ∀ f u, (tiC t)[f]? = some u → arr[off + (i * 5 + f)]? = some u := fun i => by
      by_cases hi : i < n
      · obtain ⟨cs, fuel, x, h1, h2, h3⟩ := hcs i hi
        obtain ⟨xs, m, _, _, _, hlen, hf⟩ := DataW.trod_struct Tryd.underlying35 h2
        have f0 : DataW.trod enc Tryd.prog W base sp held m 3 ((cs.drop 0).take (Tryd.prog.cellsOf 3)) = xs[0]? := hf 0 _ rfl
        have f1 : DataW.trod enc Tryd.prog W base sp held m 9 ((cs.drop 1).take (Tryd.prog.cellsOf 9)) = xs[1]? := hf 1 _ rfl
        have f2 : DataW.trod enc Tryd.prog W base sp held m 33 ((cs.drop 2).take (Tryd.prog.cellsOf 33)) = xs[2]? := hf 2 _ rfl
        have f3 : DataW.trod enc Tryd.prog W base sp held m 3 ((cs.drop 3).take (Tryd.prog.cellsOf 3)) = xs[3]? := hf 3 _ rfl
        have f4 : DataW.trod enc Tryd.prog W base sp held m 3 ((cs.drop 4).take (Tryd.prog.cellsOf 3)) = xs[4]? := hf 4 _ rfl
        rw [List.getElem?_eq_getElem (by rw [hlen]; decide)] at f0 f1 f2 f3 f4
        obtain ⟨k, e0, _, _⟩ := DataW.trod_int Tryd.underlying3 f0
        obtain ⟨s, e1, _, _⟩ := DataW.trod_string Tryd.underlying9 f1
        obtain ⟨z, e2, _, _⟩ := DataW.trod_int Tryd.underlying33 f2
        obtain ⟨a, e3, _, _⟩ := DataW.trod_int Tryd.underlying3 f3
        obtain ⟨c, e4, _, _⟩ := DataW.trod_int Tryd.underlying3 f4
        have c1 : Tryd.prog.cellsOf 3 = 1 := by kernel_rfl
        have c2 : Tryd.prog.cellsOf 9 = 1 := by kernel_rfl
        have c3 : Tryd.prog.cellsOf 33 = 1 := by kernel_rfl
        simp only [c1, c2, c3] at e0 e1 e2 e3 e4
        match cs, h1 with
        | [v0, v1, v2, v3, v4], _ =>
          simp at e0 e1 e2 e3 e4
          subst e0 e1 e2 e3 e4
          obtain ⟨⟨bs⟩⟩ := s
          exact ⟨⟨k, bs, z, a, c⟩, fun _ f u h => h3 f u h⟩
      · exact ⟨⟨0, [], 0, 0, 0⟩, fun h => absurd h hi⟩
    obtain ⟨g, hg⟩ := Classical.axiomOfChoice hex
    refine ⟨(List.range n).map g, .inr ⟨b, off, cap, arr, et, fr, by simp, hb, fun j u hj => ?_⟩, by simpa using h63, fun _ _ _ h => by cases h; exact hlc⟩
    obtain ⟨i, f, rfl, hi, hu⟩ := tisC_inv hj
    simp only [List.length_map, List.length_range] at hi
    refine hg i hi f u ?_
    simpa [List.getD, hi] using hu
theorem slice_len {P : Program} {H : Type} {enc : TypeId × Value → H} {W : World} {base : Nat} {t e : TypeId} {p : Option Addr} {n c : Nat} {d : DataW H} {ps : List MemPlace} {sp : Nat → Bool} {held : Bool} (ht : P.underlying t = some (.slice e))
    (hd : DataW.Trod enc P W base sp held t (.slice p n c) d ps) : n = 0 ∨ ∃ a b, d = .slice a b ∧ a.length = n := by
  obtain ⟨fuel, hf⟩ := hd
  rcases DataW.trod_slice ht hf with ⟨h, _⟩ | ⟨ad, len', cap', elems, rest, m, _, h, hx, _, _, _, hel, _⟩
  · simp [Value.cells] at h
    exact .inl h.2.1
  · simp [Value.cells] at h
    obtain ⟨rfl, rfl, rfl⟩ := h
    simp only [Prod.mk.injEq] at hx
    exact .inr ⟨_, _, hx.1, by rw [List.length_map]; exact hel⟩
set_option maxRecDepth 100000 in
theorem open_toks {H : Type} {enc : TypeId × Value → H} {W : World} {r : Reach} {b0 base : Nat} {v : Value} {d : DataW H} {ps : List MemPlace} {sp : Nat → Bool} {held : Bool} (hval : Value.okWide Tryd.prog W r b0 23 v) (hd : DataW.Trod enc Tryd.prog W base sp held 23 v d ps)
    (hz : ∀ a b, d = .slice a b → (a.length + b.length) * Tryd.prog.bytesOf 35 ≤ reachBytes) : ∃ l : List Ti, TiAt W v l ∧ l.length * 48 ≤ 140737488355328 := by
  obtain ⟨l, h1, _, _⟩ := open_toks0 hval hd
  refine ⟨l, h1, ?_⟩
  have e48 : Tryd.prog.bytesOf 35 = 48 := by kernel_rfl
  have hv : ∃ p c, v = .slice p l.length c := by
    rcases h1 with ⟨p, c, rfl, rfl⟩ | ⟨b, off, c, _, _, _, rfl, _⟩
    · exact ⟨p, c, rfl⟩
    · exact ⟨_, c, rfl⟩
  obtain ⟨p, c, rfl⟩ := hv
  rcases slice_len Tryd.underlying23 hd with h | ⟨a, b, h2, h3⟩
  · omega
  · have := hz a b h2
    rw [e48, h3] at this
    have h9 : reachBytes < 140737488355328 := by decide
    have : l.length * 48 ≤ (l.length + b.length) * 48 := Nat.mul_le_mul_right _ (by omega)
    omega
end Go.Proofs.YthhfandandfeeaaDoor
