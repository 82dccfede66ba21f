/- What the statements' frames want: arguments opened, what was there reads as before. No condition. -/
import Derived.Test.YtbinaeemcidicaaGreatRows
import Derived.Test.YtbinaeemcidicaaGreatZR6
import Derived.WalkKit
import Derived.ProofKit
import Derived.OpenShut
import Derived.Carry
import Derived.HandedShaped
import Derived.Lay
import Derived.Test.YtbinaeemcidicaaGreatZNF
set_option maxRecDepth 100000
set_option maxHeartbeats 16000000
namespace Go.Proofs.YtbinaeemcidicaaGreat
open Go.PB Go.ChangeShapes Go.WideShapes Go.ChangeAt Go.RowKit
theorem own : ownKnob Tryz.prog.godebug = none := by kernel_rfl
theorem laidOut : laidOutB Tryz.prog = true := by kernel_rfl
section
variable {P : Program} {H : Type} {enc : TypeId × Value → H} {W W' : World}
theorem below_trodAll (hl : laidOutB P = true) (hb : Below W.heap.size W W') {ts : List TypeId} : ∀ {vs : List Value} {ds : List (DataW H)} {ps : List MemPlace}, (ts.all fun t => P.readableRec t && decide (t < P.types.size)) = true →
  DataW.TrodAll enc P W 0 (fun _ => true) true ts vs ds ps → (∀ x ∈ ps, x.block < W.heap.size) → DataW.TrodAll enc P W' 0 (fun b => decide (b < W.heap.size)) true ts vs ds ps := by
 induction ts with
 | nil =>
  intro vs ds ps _ h _
  obtain ⟨rfl, rfl, rfl⟩ := trodAll_nil h
  rfl
 | cons t ts ih =>
  intro vs ds ps hr h hlt
  obtain ⟨v, vs', d, ds', p, q, rfl, rfl, rfl, h1, h2⟩ := trodAll_cons h
  simp only [List.all_cons, Bool.and_eq_true, decide_eq_true_eq] at hr
  exact ⟨p, q, Below.trod hl hr.1.1 hr.1.2 h1 hb (fun x hx => hlt x (by simp [hx])), ih hr.2 h2 (fun x hx => hlt x (by simp [hx])), rfl⟩
theorem true_post (hl : laidOutB P = true) {f : Func} {s : ChangeSpec} {args : Array Value} {ds gs : List (DataW H)} {before : List MemPlace} {bt : TypeId} (hW : DataW.Whole enc P f.params.toList s.vars false W args.toList ds gs before)
  (hvars : s.vars = []) (hfn : s.fn H (ds ++ gs) = { results := [.lit (.bool true)], args := ds }) (hrt : f.resultTypes = #[bt]) (hbt : P.underlying bt = some .bool)
  (hrows : (f.params.toList.all fun t => P.readableRec t && decide (t < P.types.size)) = true) (hb : Below W.heap.size W W') : s.post enc P f false true false false W args (.bool true) W' := by
 have hW' := hW
 obtain ⟨p, q, hA, hV, rfl, hfz, hnd⟩ := hW
 rw [hvars] at hV
 obtain ⟨rfl, rfl⟩ := trodVars_none hV
 have hlt : ∀ x ∈ p, x.block < W.heap.size := fun x hx => hW'.lt x (by simp [hx])
 refine ⟨ds, [], _, [], p, [], hW', ?_, ?_, ?_, hb.frame _, fun h => by cases h⟩
 ·rw [hfn, hrt]
  exact trodAll_cons_mk (shut_bool hbt _) trodAll_mk0
 ·rw [hfn]
  exact below_trodAll hl hb hrows hA hlt
 ·rw [hfn, hvars]
  exact rfl
end
end Go.Proofs.YtbinaeemcidicaaGreat
namespace Go.Proofs.YtbinaeemcidicaaGreat
open Go.PB Go.ChangeShapes Go.WideShapes Go.ChangeAt Go.RowKit
attribute [local irreducible] Go.Calls
theorem open_cells {P : Program} {H : Type} {enc : TypeId × Value → H} {W : World} {r : Reach} {b0 base c : Nat} {t e : TypeId} {v : Value} {d : DataW H} {ps : List MemPlace} {sp : Nat → Bool} {held : Bool} (ht : P.underlying t = some (.slice e)) (hc : P.cellsOf e = c) (hc0 : 0 < c)
  (hval : Value.okWide P W r b0 t v) (hd : DataW.Trod enc P W base sp held t v d ps) :
  (∃ p k, v = .slice p 0 k) ∨ ∃ b off cap n arr et fr, 0 < n ∧ n ≤ 9223372036854775807 ∧ n ≤ cap ∧ v = .slice (some ⟨b, off, none⟩) n cap ∧ W.heap[b]? = some (.cells arr et fr) ∧
   ∀ i, i < n → ∃ cs fuel x, cs.length = c ∧ DataW.trod enc P W base sp held fuel e cs = some x ∧ ∀ j u, cs[j]? = some u → arr[off + (i * c + j)]? = some u := by
 obtain ⟨a, len, cap, rfl⟩ := okWide_slice ht hval
 obtain ⟨fuel, hf⟩ := hd
 rcases DataW.trod_slice ht hf with ⟨h, _⟩ | ⟨ad, len', cap', elems, rest, n, _, h, _, _, hlc, hcm, hel, hels, _⟩
 ·simp [Value.cells] at h
  obtain ⟨rfl, rfl, rfl⟩ := h
  exact .inl ⟨_, _, rfl⟩
 ·simp [Value.cells] at h
  obtain ⟨rfl, rfl, rfl⟩ := h
  rcases Nat.eq_zero_or_pos len with h0 | h0
  ·exact .inl ⟨_, _, by rw [h0]⟩
  ·have hcell : ∀ i, i < len → ∃ cs, cs.length = c ∧ (∃ x, DataW.trod enc P W base sp held n e cs = some x) ∧ ∀ j, j < c → W.cell? ((ad.add (i * c)).add j) = cs[j]? := fun i hi => by
    have h1 := hels i hi
    rw [hc, List.getElem?_eq_getElem Zga] at h1
    obtain ⟨cs, hcs, htr⟩ := Option.bind_eq_some_iff.1 h1
    obtain ⟨_, h2, h3⟩ := World.cells?_some hcs
    exact ⟨cs, h2, ⟨_, htr⟩, fun j hj => by rw [h3 j hj]⟩
   obtain ⟨g, off, spot⟩ := ad
   obtain ⟨cs0, hl0, _, hg0⟩ := hcell 0 h0
   have h00 := hg0 0 hc0
   rw [List.getElem?_eq_getElem Zga] at h00
   have h01 : W.cell? ⟨g, off, spot⟩ = some cs0[0] := by simpa [Addr.add] using h00
   have hs : spot = none ∧ ∃ c e fr, W.heap[g]? = some (.cells c e fr) := by
    unfold World.cell? at h01
    split at h01
    ·rename_i c e fr hcell
     split at h01
     ·cases h01
     ·rename_i hsp
      exact ⟨by simpa using hsp, c, e, fr, hcell⟩
    ·cases h01
   obtain ⟨rfl, arr, et, fr, hcl⟩ := hs
   refine .inr ⟨g, off, cap, len, arr, et, fr, h0, by simp only [maxLen] at hcm; omega, by omega, rfl, hcl, fun i hi => ?_⟩
   obtain ⟨cs, h1, ⟨x, h2⟩, h3⟩ := hcell i hi
   refine ⟨cs, n, x, h1, h2, fun j u hj => ?_⟩
   have hjl : j < c := by
    obtain ⟨h, _⟩ := List.getElem?_eq_some_iff.1 hj
    omega
   have := h3 j hjl
   rw [hj, add_lit, add_lit, cell_cells hcl, Nat.add_assoc] at this
   exact this
end Go.Proofs.YtbinaeemcidicaaGreat
