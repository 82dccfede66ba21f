/- What the statements' frames want of scripts that came in. No condition. -/
import Derived.Test.YtdnicbbandbdbaaDoorFr
import Derived.Test.YtdnicbbandbdbaaDoorSF
namespace Go.Proofs.YtdnicbbandbdbaaDoor
open Go.PB Go.ChangeShapes Go.WideShapes Go.ChangeAt Go.RowKit
attribute [local irreducible] Go.Calls
/-- all blocks of a world, to be read -/
def allR (W : World) : List Ent := (List.range W.heap.size).filterMap fun b => (W.heap[b]?).map fun o => ⟨b, false, o⟩
theorem mem_all {W : World} {b : Nat} {o : Obj} (h : W.heap[b]? = some o) : (⟨b, false, o⟩ : Ent) ∈ allR W := by
  unfold allR
  rw [List.mem_filterMap]
  exact ⟨b, List.mem_range.2 (lt_of_get h), by rw [h]; rfl⟩
theorem St_all (W : World) : St [] W W (allR W) := by
  have hp : ∀ p ∈ allR W, p.wr = false ∧ W.heap[p.b]? = some p.o := fun p hp => by
    unfold allR at hp
    obtain ⟨b, _, h⟩ := List.mem_filterMap.1 hp
    obtain ⟨o, h1, rfl⟩ := Option.map_eq_some_iff.1 h
    exact ⟨rfl, h1⟩
  refine ⟨rfl, rfl, rfl, Nat.le_refl _, fun _ _ _ => rfl, fun p h => ⟨(hp p h).2, fun e => by rw [(hp p h).1] at e; cases e⟩, ?_⟩
  exact List.Pairwise.imp_of_mem (fun {p q} h1 h2 _ _ => ⟨(hp p h1).1, (hp q h2).1⟩) (List.pairwise_of_forall (R := fun _ _ => True) fun _ _ => trivial)
section
variable {P : Program} {H : Type} {enc : TypeId × Value → H} {W : World} {base : Nat} {sp : Nat → Bool} {held : Bool} {fuel : Nat} {cs : List Value} {x : DataW H × List MemPlace}
/-- a slice that came in: nothing, or cells in a block -/
theorem slice_cells {t e : TypeId} {c : Nat} (ht : P.underlying t = some (.slice e)) (hc : P.cellsOf e = c) (hc0 : 0 < c) (hf : DataW.trod enc P W base sp held fuel t cs = some x) :
    ∃ v, cs = [v] ∧ ((∃ p k, v = .slice p 0 k) ∨ ∃ b off cap n arr et fr, 0 < n ∧ n ≤ 9223372036854775807 ∧ n ≤ cap ∧ v = .slice (some ⟨b, off, none⟩) n cap ∧ W.heap[b]? = some (.cells arr et fr) ∧
      ∀ i, i < n → ∃ es fuel x, es.length = c ∧ DataW.trod enc P W base sp held fuel e es = some x ∧ ∀ j u, es[j]? = some u → arr[off + (i * c + j)]? = some u) := by
  rcases DataW.trod_slice ht hf with ⟨h, _⟩ | ⟨ad, len, cap, elems, rest, n, _, h, _, _, hlc, hcm, hel, hels, _⟩
  · exact ⟨_, h, .inl ⟨_, _, rfl⟩⟩
  · refine ⟨_, h, ?_⟩
    rcases Nat.eq_zero_or_pos len with h0 | h0
    · exact .inl ⟨_, _, by rw [h0]⟩
    · have hcell : ∀ i, i < len → ∃ cs, cs.length = c ∧ (∃ x, DataW.trod enc P W base sp held n e cs = some x) ∧ ∀ j, j < c → W.cell? ((ad.add (i * c)).add j) = cs[j]? := fun i hi => by
        have h1 := hels i hi
        rw [hc, List.getElem?_eq_getElem (by omega)] at h1
        obtain ⟨cs, hcs, htr⟩ := Option.bind_eq_some_iff.1 h1
        obtain ⟨_, h2, h3⟩ := World.cells?_some hcs
        exact ⟨cs, h2, ⟨_, htr⟩, fun j hj => by rw [h3 j hj]⟩
      obtain ⟨g, off, spot⟩ := ad
      obtain ⟨cs0, hl0, _, hg0⟩ := hcell 0 h0
      have h00 := hg0 0 hc0
      rw [List.getElem?_eq_getElem (by omega)] at h00
      have h01 : W.cell? ⟨g, off, spot⟩ = some cs0[0] := by simpa [Addr.add] using h00
      have hs : spot = none ∧ ∃ c e fr, W.heap[g]? = some (.cells c e fr) := by
        unfold World.cell? at h01
        split at h01
        · rename_i c e fr hcell
          split at h01
          · cases h01
          · rename_i hsp
            exact ⟨by simpa using hsp, c, e, fr, hcell⟩
        · cases h01
      obtain ⟨rfl, arr, et, fr, hcl⟩ := hs
      refine .inr ⟨g, off, cap, len, arr, et, fr, h0, by simp only [maxLen] at hcm; omega, by omega, rfl, hcl, fun i hi => ?_⟩
      obtain ⟨cs, h1, ⟨x, h2⟩, h3⟩ := hcell i hi
      refine ⟨cs, n, x, h1, h2, fun j u hj => ?_⟩
      have hjl : j < c := by
        obtain ⟨h, _⟩ := List.getElem?_eq_some_iff.1 hj
        omega
      have := h3 j hjl
      rw [hj, add_lit, add_lit, cell_cells hcl, Nat.add_assoc] at this
      exact this
end
section
variable {H : Type} {enc : TypeId × Value → H} {W : World} {base : Nat} {sp : Nat → Bool} {held : Bool} {fuel : Nat} {cs : List Value} {x : DataW H × List MemPlace}
theorem flat_length {α : Type} {f : α → List Value} {c : Nat} (h : ∀ a, (f a).length = c) : ∀ l : List α, (l.flatMap f).length = l.length * c
  | [] => by simp
  | a :: l => by
    rw [List.flatMap_cons, List.length_append, h, flat_length h l, List.length_cons, Nat.succ_mul, Nat.add_comm]
/-- a slice whose elements are told one by one -/
theorem rdx_of {α : Type} {t e : TypeId} {c : Nat} {f : α → List Value} {ok : α → Prop} (d : α) (ht : Tryd.prog.underlying t = some (.slice e)) (hc : Tryd.prog.cellsOf e = c) (hc0 : 0 < c) (hfl : ∀ a, (f a).length = c)
    (he : ∀ fuel es x, DataW.trod enc Tryd.prog W base sp held fuel e es = some x → ∃ a, es = f a ∧ ok a) (hf : DataW.trod enc Tryd.prog W base sp held fuel t cs = some x) :
    ∃ (v : Value) (l : List α), cs = [v] ∧ RdX (allR W) v l.length (l.flatMap f) ∧ ∀ a ∈ l, ok a := by
  obtain ⟨v, rfl, h⟩ := slice_cells ht hc hc0 hf
  rcases h with ⟨p, k, rfl⟩ | ⟨b, off, cap, n, arr, et, fr, h0, h63, hlc, rfl, hb, hcs⟩
  · exact ⟨_, [], rfl, .inl ⟨p, k, rfl, rfl⟩, fun a ha => by cases ha⟩
  · have hex : ∀ i, ∃ a : α, i < n → ok a ∧ ∀ j u, (f a)[j]? = some u → arr[off + (i * c + j)]? = some u := fun i => by
      by_cases hi : i < n
      · obtain ⟨es, fuel, x, h1, h2, h3⟩ := hcs i hi
        obtain ⟨a, rfl, ha⟩ := he fuel es x h2
        exact ⟨a, fun _ => ⟨ha, h3⟩⟩
      · exact ⟨d, fun h => absurd h hi⟩
    obtain ⟨g, hg⟩ := Classical.axiomOfChoice hex
    refine ⟨_, (List.range n).map g, rfl, .inr ⟨b, off, cap, arr, et, fr, false, by simp, mem_all hb, by simpa using hlc, ?_⟩, fun a ha => ?_⟩
    · have key : ∀ (m : Nat), m ≤ n → ∀ j u, (((List.range m).map g).flatMap f)[j]? = some u → arr[off + j]? = some u := by
        intro m
        induction m with
        | zero => intro _ j u h; simp at h
        | succ m ih =>
          intro hm j u h
          rw [List.range_succ, List.map_append, List.flatMap_append] at h
          have hlen : (((List.range m).map g).flatMap f).length = m * c := by
            rw [flat_length hfl]
            simp
          by_cases hj : j < m * c
          · rw [List.getElem?_append_left (by rw [hlen]; exact hj)] at h
            exact ih (by omega) j u h
          · rw [List.getElem?_append_right (by rw [hlen]; omega), hlen] at h
            simp only [List.map_cons, List.map_nil, List.flatMap_cons, List.flatMap_nil, List.append_nil] at h
            have := (hg m (by omega)).2 (j - m * c) u h
            rwa [show m * c + (j - m * c) = j by omega] at this
      exact key n (Nat.le_refl _)
    · obtain ⟨i, hi, rfl⟩ := List.mem_map.1 ha
      exact (hg i (List.mem_range.1 hi)).1
theorem flat_one {α : Type} (f : α → Value) (l : List α) : l.flatMap (fun a => [f a]) = l.map f := by
  induction l with
  | nil => rfl
  | cons a l ih => rw [List.flatMap_cons, ih]; rfl
theorem ints_of (hf : DataW.trod enc Tryd.prog W base sp held fuel 39 cs = some x) : ∃ v l, cs = [v] ∧ RdX (allR W) v l.length (intV l) ∧ ∀ n ∈ l, inI64 n := by
  obtain ⟨v, l, h1, h2, h3⟩ := rdx_of (f := fun n : Int => [Value.int .i64 n]) (ok := inI64) 0 Tryd.underlying39 (show Tryd.prog.cellsOf 3 = 1 by kernel_rfl) (by decide) (fun _ => rfl) (fun fuel es x h => by
    obtain ⟨n, h1, _, h2⟩ := DataW.trod_int Tryd.underlying3 h
    exact ⟨n, h1, by have : IntKind.i64.min ≤ n ∧ n ≤ IntKind.i64.max := by simpa [Lit.wf] using h2
                     exact this⟩) hf
  rw [flat_one] at h2
  exact ⟨v, l, h1, h2, h3⟩
theorem byts_of (hf : DataW.trod enc Tryd.prog W base sp held fuel 40 cs = some x) : ∃ v l, cs = [v] ∧ RdX (allR W) v l.length (bytV l) := by
  obtain ⟨v, l, h1, h2, h3⟩ := rdx_of (f := fun b : UInt8 => [Value.int .u8 (b.toNat : Int)]) (ok := fun _ => True) 0 Tryd.underlying40 (show Tryd.prog.cellsOf 5 = 1 by kernel_rfl) (by decide) (fun _ => rfl) (fun fuel es x h => by
    obtain ⟨n, h1, _, h2⟩ := DataW.trod_int Tryd.underlying5 h
    have hb : 0 ≤ n ∧ n ≤ 255 := by
      have : IntKind.u8.min ≤ n ∧ n ≤ IntKind.u8.max := by simpa [Lit.wf] using h2
      exact this
    refine ⟨UInt8.ofNat n.toNat, ?_, trivial⟩
    rw [h1, show (UInt8.ofNat n.toNat).toNat = n.toNat from Nat.mod_eq_of_lt (by omega), Int.toNat_of_nonneg hb.1]) hf
  rw [flat_one] at h2
  exact ⟨v, l, h1, h2⟩
set_option maxRecDepth 100000 in
theorem call_of (h2 : DataW.trod enc Tryd.prog W base sp held fuel 53 cs = some x) : ∃ y : Cv, cs = cvC y ∧ CvOk (allR W) y := by
  obtain ⟨xs, m, _, _, h1, hlen, hf⟩ := DataW.trod_struct Tryd.underlying53 h2
  have c4 : Tryd.prog.cellsOf 53 = 4 := by kernel_rfl
  rw [c4] at h1
  have f0 : DataW.trod enc Tryd.prog W base sp held m 3 ((cs.drop 0).take (Tryd.prog.cellsOf 3)) = xs[0]? := hf 0 _ rfl
  have f1 : DataW.trod enc Tryd.prog W base sp held m 39 ((cs.drop 1).take (Tryd.prog.cellsOf 39)) = xs[1]? := hf 1 _ rfl
  have f2 : DataW.trod enc Tryd.prog W base sp held m 40 ((cs.drop 2).take (Tryd.prog.cellsOf 40)) = xs[2]? := hf 2 _ rfl
  have f3 : DataW.trod enc Tryd.prog W base sp held m 9 ((cs.drop 3).take (Tryd.prog.cellsOf 9)) = xs[3]? := hf 3 _ rfl
  rw [List.getElem?_eq_getElem (by rw [hlen]; decide)] at f0 f1 f2 f3
  have c1 : Tryd.prog.cellsOf 3 = 1 := by kernel_rfl
  have c2 : Tryd.prog.cellsOf 9 = 1 := by kernel_rfl
  have c3 : Tryd.prog.cellsOf 39 = 1 := by kernel_rfl
  have c5 : Tryd.prog.cellsOf 40 = 1 := by kernel_rfl
  rw [c1] at f0
  rw [c3] at f1
  rw [c5] at f2
  rw [c2] at f3
  match cs, h1 with
  | [v0, v1, v2, v3], _ =>
    obtain ⟨k, e0, _, _⟩ := DataW.trod_int Tryd.underlying3 f0
    obtain ⟨iv, is, e1, hi⟩ := ints_of f1
    obtain ⟨bv, bs, e2, hb⟩ := byts_of f2
    obtain ⟨s, e3, _, _⟩ := DataW.trod_string Tryd.underlying9 f3
    obtain ⟨⟨s⟩⟩ := s
    simp at e0 e1 e2 e3
    subst e0 e1 e2 e3
    exact ⟨⟨⟨k, is, bs, s⟩, v1, v2⟩, rfl, hi.1, hb⟩
set_option maxRecDepth 100000 in
theorem calls_of (hf : DataW.trod enc Tryd.prog W base sp held fuel 24 cs = some x) : ∃ v l, cs = [v] ∧ RdC (allR W) v l := by
  obtain ⟨v, l, h1, h2, h3⟩ := rdx_of (f := cvC) (ok := CvOk (allR W)) cv0 Tryd.underlying24 (show Tryd.prog.cellsOf 53 = 4 by kernel_rfl) (by decide) (fun _ => rfl) (fun fuel es x h => call_of h) hf
  exact ⟨v, l, h1, h2, h3⟩
set_option maxRecDepth 100000 in
theorem script_of (h2 : DataW.trod enc Tryd.prog W base sp held fuel 26 cs = some x) : ∃ sw sh cv l, cs = [.int .i64 sw, .int .i64 sh, cv] ∧ RdC (allR W) cv l := by
  obtain ⟨xs, m, _, _, h1, hlen, hf⟩ := DataW.trod_struct Tryd.underlying26 h2
  have c4 : Tryd.prog.cellsOf 26 = 3 := by kernel_rfl
  rw [c4] at h1
  have f0 : DataW.trod enc Tryd.prog W base sp held m 3 ((cs.drop 0).take (Tryd.prog.cellsOf 3)) = xs[0]? := hf 0 _ rfl
  have f1 : DataW.trod enc Tryd.prog W base sp held m 3 ((cs.drop 1).take (Tryd.prog.cellsOf 3)) = xs[1]? := hf 1 _ rfl
  have f2 : DataW.trod enc Tryd.prog W base sp held m 24 ((cs.drop 2).take (Tryd.prog.cellsOf 24)) = xs[2]? := hf 2 _ rfl
  rw [List.getElem?_eq_getElem (by rw [hlen]; decide)] at f0 f1 f2
  have c1 : Tryd.prog.cellsOf 3 = 1 := by kernel_rfl
  have c3 : Tryd.prog.cellsOf 24 = 1 := by kernel_rfl
  rw [c1] at f0 f1
  rw [c3] at f2
  match cs, h1 with
  | [v0, v1, v2], _ =>
    obtain ⟨a, e0, _, _⟩ := DataW.trod_int Tryd.underlying3 f0
    obtain ⟨b, e1, _, _⟩ := DataW.trod_int Tryd.underlying3 f1
    obtain ⟨cv, l, e2, hl⟩ := calls_of f2
    simp at e0 e1 e2
    subst e0 e1 e2
    exact ⟨a, b, v2, l, rfl, hl⟩
set_option maxRecDepth 100000 in
theorem open_script {r : Reach} {b0 : Nat} {v : Value} {d : DataW H} {ps : List MemPlace} (hval : Value.okWide Tryd.prog W r b0 26 v) (hd : DataW.Trod enc Tryd.prog W base sp held 26 v d ps) :
    ∃ sw sh cv l, v = scV sw sh cv ∧ RdC (allR W) cv l := by
  obtain ⟨⟨cs⟩, rfl, _⟩ := okWide_struct Tryd.underlying26 hval
  obtain ⟨fuel, hf⟩ := hd
  obtain ⟨sw, sh, cv, l, h1, h2⟩ := script_of hf
  have h1 : cs = [.int .i64 sw, .int .i64 sh, cv] := h1
  subst h1
  exact ⟨sw, sh, cv, l, rfl, h2⟩
end
end Go.Proofs.YtdnicbbandbdbaaDoor
