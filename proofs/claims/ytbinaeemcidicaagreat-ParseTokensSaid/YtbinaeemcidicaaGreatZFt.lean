/- What the statements' frames want: arguments opened, what was there reads as before. No condition. -/
import Derived.Test.YtbinaeemcidicaaGreatRows
import Derived.Test.YtbinaeemcidicaaGreatZR6
import Derived.WalkKit
import Derived.ProofKit
import Derived.OpenShut
import Derived.Carry
import Derived.HandedShaped
import Derived.Lay
import Derived.Test.YtbinaeemcidicaaGreatZNF
set_option maxRecDepth 100000
set_option maxHeartbeats 16000000
namespace Go.Proofs.YtbinaeemcidicaaGreat
open Go.PB Go.ChangeShapes Go.WideShapes Go.ChangeAt Go.RowKit
theorem own : ownKnob Tryz.prog.godebug = none := by kernel_rfl
theorem laidOut : laidOutB Tryz.prog = true := by kernel_rfl
section
variable {P : Program} {H : Type} {enc : TypeId × Value → H} {W W' : World}
theorem below_trodAll (hl : laidOutB P = true) (hb : Below W.heap.size W W') {ts : List TypeId} : ∀ {vs : List Value} {ds : List (DataW H)} {ps : List MemPlace}, (ts.all fun t => P.readableRec t && decide (t < P.types.size)) = true →
    DataW.TrodAll enc P W 0 (fun _ => true) true ts vs ds ps → (∀ x ∈ ps, x.block < W.heap.size) → DataW.TrodAll enc P W' 0 (fun b => decide (b < W.heap.size)) true ts vs ds ps := by
  induction ts with
  | nil =>
    intro vs ds ps _ h _
    obtain ⟨rfl, rfl, rfl⟩ := trodAll_nil h
    rfl
  | cons t ts ih =>
    intro vs ds ps hr h hlt
    obtain ⟨v, vs', d, ds', p, q, rfl, rfl, rfl, h1, h2⟩ := trodAll_cons h
    simp only [List.all_cons, Bool.and_eq_true, decide_eq_true_eq] at hr
    exact ⟨p, q, Below.trod hl hr.1.1 hr.1.2 h1 hb (fun x hx => hlt x (by simp [hx])), ih hr.2 h2 (fun x hx => hlt x (by simp [hx])), rfl⟩
theorem true_post (hl : laidOutB P = true) {f : Func} {s : ChangeSpec} {args : Array Value} {ds gs : List (DataW H)} {before : List MemPlace} {bt : TypeId} (hW : DataW.Whole enc P f.params.toList s.vars false W args.toList ds gs before)
    (hvars : s.vars = []) (hfn : s.fn H (ds ++ gs) = { results := [.lit (.bool true)], args := ds }) (hrt : f.resultTypes = #[bt]) (hbt : P.underlying bt = some .bool)
    (hrows : (f.params.toList.all fun t => P.readableRec t && decide (t < P.types.size)) = true) (hb : Below W.heap.size W W') : s.post enc P f false true false false W args (.bool true) W' := by
  have hW' := hW
  obtain ⟨p, q, hA, hV, rfl, hfz, hnd⟩ := hW
  rw [hvars] at hV
  obtain ⟨rfl, rfl⟩ := trodVars_none hV
  have hlt : ∀ x ∈ p, x.block < W.heap.size := fun x hx => hW'.lt x (by simp [hx])
  refine ⟨ds, [], _, [], p, [], hW', ?_, ?_, ?_, hb.frame _, fun h => by cases h⟩
  · rw [hfn, hrt]
    exact trodAll_cons_mk (shut_bool hbt _) trodAll_mk0
  · rw [hfn]
    exact below_trodAll hl hb hrows hA hlt
  · rw [hfn, hvars]
    exact rfl
end
end Go.Proofs.YtbinaeemcidicaaGreat
namespace Go.Proofs.YtbinaeemcidicaaGreat
open Go.PB Go.ChangeShapes Go.WideShapes Go.ChangeAt Go.RowKit
attribute [local irreducible] Go.Calls
theorem open_cells {P : Program} {H : Type} {enc : TypeId × Value → H} {W : World} {r : Reach} {b0 base c : Nat} {t e : TypeId} {v : Value} {d : DataW H} {ps : List MemPlace} {sp : Nat → Bool} {held : Bool} (ht : P.underlying t = some (.slice e)) (hc : P.cellsOf e = c) (hc0 : 0 < c)
    (hval : Value.okWide P W r b0 t v) (hd : DataW.Trod enc P W base sp held t v d ps) :
    (∃ p k, v = .slice p 0 k) ∨ ∃ b off cap n arr et fr, 0 < n ∧ n ≤ 9223372036854775807 ∧ n ≤ cap ∧ v = .slice (some ⟨b, off, none⟩) n cap ∧ W.heap[b]? = some (.cells arr et fr) ∧
      ∀ i, i < n → ∃ cs fuel x, cs.length = c ∧ DataW.trod enc P W base sp held fuel e cs = some x ∧ ∀ j u, cs[j]? = some u → arr[off + (i * c + j)]? = some u := by
  obtain ⟨a, len, cap, rfl⟩ := okWide_slice ht hval
  obtain ⟨fuel, hf⟩ := hd
  rcases DataW.trod_slice ht hf with ⟨h, _⟩ | ⟨ad, len', cap', elems, rest, n, _, h, _, _, hlc, hcm, hel, hels, _⟩
  · simp [Value.cells] at h
    obtain ⟨rfl, rfl, rfl⟩ := h
    exact .inl ⟨_, _, rfl⟩
  · simp [Value.cells] at h
    obtain ⟨rfl, rfl, rfl⟩ := h
    rcases Nat.eq_zero_or_pos len with h0 | h0
    · exact .inl ⟨_, _, by rw [h0]⟩
    · have hcell : ∀ i, i < len → ∃ cs, cs.length = c ∧ (∃ x, DataW.trod enc P W base sp held n e cs = some x) ∧ ∀ j, j < c → W.cell? ((ad.add (i * c)).add j) = cs[j]? := fun i hi => by
        have h1 := hels i hi
        rw [hc, List.getElem?_eq_getElem Zga] at h1
        obtain ⟨cs, hcs, htr⟩ := Option.bind_eq_some_iff.1 h1
        obtain ⟨_, h2, h3⟩ := World.cells?_some hcs
        exact ⟨cs, h2, ⟨_, htr⟩, fun j hj => by rw [h3 j hj]⟩
      obtain ⟨g, off, spot⟩ := ad
      obtain ⟨cs0, hl0, _, hg0⟩ := hcell 0 h0
      have h00 := hg0 0 hc0
      rw [List.getElem?_eq_getElem Zga] at h00
      have h01 : W.cell? ⟨g, off, spot⟩ = some cs0[0] := by simpa [Addr.add] using h00
      have hs : spot = none ∧ ∃ c e fr, W.heap[g]? = some (.cells c e fr) := by
        unfold World.cell? at h01
        split at h01
        · rename_i c e fr hcell
          split at h01
          · cases h01
          · rename_i hsp
            exact ⟨by simpa using hsp, c, e, fr, hcell⟩
        · cases h01
      obtain ⟨rfl, arr, et, fr, hcl⟩ := hs
      refine .inr ⟨g, off, cap, len, arr, et, fr, h0, by simp only [maxLen] at hcm; omega, by omega, rfl, hcl, fun i hi => ?_⟩
      obtain ⟨cs, h1, ⟨x, h2⟩, h3⟩ := hcell i hi
      refine ⟨cs, n, x, h1, h2, fun j u hj => ?_⟩
      have hjl : j < c := by
        obtain ⟨h, _⟩ := List.getElem?_eq_some_iff.1 hj
        omega
      have := h3 j hjl
      rw [hj, add_lit, add_lit, cell_cells hcl, Nat.add_assoc] at this
      exact this
theorem open_toks0 {H : Type} {enc : TypeId × Value → H} {W : World} {r : Reach} {b0 base : Nat} {v : Value} {d : DataW H} {ps : List MemPlace} {sp : Nat → Bool} {held : Bool} (hval : Value.okWide Tryz.prog W r b0 22 v) (hd : DataW.Trod enc Tryz.prog W base sp held 22 v d ps) :
    ∃ l : List Ti, TiAt W v l ∧ l.length ≤ 9223372036854775807 ∧ ∀ p m c, v = .slice p m c → m ≤ c := by
  rcases open_cells Tryz.underlying22 (show Tryz.prog.cellsOf 42 = 5 by kernel_rfl) Zf7 hval hd with ⟨p, k, rfl⟩ | ⟨b, off, cap, n, arr, et, fr, h0, h63, hlc, rfl, hb, hcs⟩
  · exact ⟨[], .inl ⟨p, k, rfl, rfl⟩, Nat.zero_le _, fun _ _ _ h => by cases h; exact Nat.zero_le _⟩
  · have hex : ∀ i, ∃ t : Ti, i < n → ∀ f u, (tiC t)[f]? = some u → arr[off + (i * 5 + f)]? = some u := fun i => by
      by_cases hi : i < n
      · obtain ⟨cs, fuel, x, h1, h2, h3⟩ := hcs i hi
        obtain ⟨xs, m, _, _, _, hlen, hf⟩ := DataW.trod_struct Tryz.underlying42 h2
        have f0 : DataW.trod enc Tryz.prog W base sp held m 3 ((cs.drop 0).take (Tryz.prog.cellsOf 3)) = xs[0]? := hf 0 _ rfl
        have f1 : DataW.trod enc Tryz.prog W base sp held m 9 ((cs.drop 1).take (Tryz.prog.cellsOf 9)) = xs[1]? := hf 1 _ rfl
        have f2 : DataW.trod enc Tryz.prog W base sp held m 40 ((cs.drop 2).take (Tryz.prog.cellsOf 40)) = xs[2]? := hf 2 _ rfl
        have f3 : DataW.trod enc Tryz.prog W base sp held m 3 ((cs.drop 3).take (Tryz.prog.cellsOf 3)) = xs[3]? := hf 3 _ rfl
        have f4 : DataW.trod enc Tryz.prog W base sp held m 3 ((cs.drop 4).take (Tryz.prog.cellsOf 3)) = xs[4]? := hf 4 _ rfl
        rw [List.getElem?_eq_getElem (by rw [hlen]; decide)] at f0 f1 f2 f3 f4
        obtain ⟨k, e0, _, _⟩ := DataW.trod_int Tryz.underlying3 f0
        obtain ⟨s, e1, _, _⟩ := DataW.trod_string Tryz.underlying9 f1
        obtain ⟨z, e2, _, _⟩ := DataW.trod_int Tryz.underlying40 f2
        obtain ⟨a, e3, _, _⟩ := DataW.trod_int Tryz.underlying3 f3
        obtain ⟨c, e4, _, _⟩ := DataW.trod_int Tryz.underlying3 f4
        have c1 : Tryz.prog.cellsOf 3 = 1 := by kernel_rfl
        have c2 : Tryz.prog.cellsOf 9 = 1 := by kernel_rfl
        have c3 : Tryz.prog.cellsOf 40 = 1 := by kernel_rfl
        simp only [c1, c2, c3] at e0 e1 e2 e3 e4
        match cs, h1 with
        | [v0, v1, v2, v3, v4], _ =>
          simp at e0 e1 e2 e3 e4
          subst e0 e1 e2 e3 e4
          obtain ⟨⟨bs⟩⟩ := s
          exact ⟨⟨k, bs, z, a, c⟩, fun _ f u h => h3 f u h⟩
      · exact ⟨⟨0, [], 0, 0, 0⟩, fun h => absurd h hi⟩
    obtain ⟨g, hg⟩ := Classical.axiomOfChoice hex
    refine ⟨(List.range n).map g, .inr ⟨b, off, cap, arr, et, fr, by simp, hb, fun j u hj => ?_⟩, by simpa using h63, fun _ _ _ h => by cases h; exact hlc⟩
    obtain ⟨i, f, rfl, hi, hu⟩ := tisC_inv hj
    simp only [List.length_map, List.length_range] at hi
    refine hg i hi f u ?_
    simpa [List.getD, hi] using hu
end Go.Proofs.YtbinaeemcidicaaGreat
