/- What the statement's frame wants of trees that came in, and of their bulk. No condition. -/
import Derived.Test.YtbinaeemcidicaaZFr
import Derived.Test.YtbinaeemcidicaaZQY
import Derived.JoinedCond
namespace Go.Proofs.Ytbinaeemcidicaa
open Go.PB Go.ChangeShapes Go.WideShapes Go.ChangeAt Go.RowKit
attribute [local irreducible] Go.Calls
section
variable {H : Type}
theorem one_le (d : DataW H) : 1 ≤ Rows.uptoBulk d := by
  cases d with
  | lit l => cases l <;> simp [Rows.uptoBulk]
  | nil => simp [Rows.uptoBulk]
  | ptr d => simp [Rows.uptoBulk]
  | slice elems spare => simp [Rows.uptoBulk]
  | agg parts => simp [Rows.uptoBulk]
  | iface t d => simp [Rows.uptoBulk]
  | map entries => simp [Rows.uptoBulk]
  | held h => simp [Rows.uptoBulk]
/-- a part weighs no more than the whole -/
theorem part_le {d : DataW H} : ∀ {l : List (DataW H)}, d ∈ l → Rows.uptoBulk d ≤ Rows.uptoBulkAll l
  | x :: r, h => by
    simp only [Rows.uptoBulkAll]
    rcases List.mem_cons.1 h with rfl | e
    · omega
    · have := part_le e
      omega
theorem length_le : ∀ l : List (DataW H), l.length ≤ Rows.uptoBulkAll l
  | [] => by simp
  | x :: r => by
    have := one_le x
    have := length_le r
    simp only [Rows.uptoBulkAll, List.length_cons]
    omega
end
/-- all blocks of a world, to be read -/
def allR (W : World) : List Ent := (List.range W.heap.size).filterMap fun b => (W.heap[b]?).map fun o => ⟨b, false, o⟩
theorem mem_all {W : World} {b : Nat} {o : Obj} (h : W.heap[b]? = some o) : (⟨b, false, o⟩ : Ent) ∈ allR W := by
  unfold allR
  rw [List.mem_filterMap]
  exact ⟨b, List.mem_range.2 (lt_of_get h), by rw [h]; rfl⟩
theorem St_all (W : World) : St [] W W (allR W) := by
  have hp : ∀ p ∈ allR W, p.wr = false ∧ W.heap[p.b]? = some p.o := fun p hp => by
    unfold allR at hp
    obtain ⟨b, _, h⟩ := List.mem_filterMap.1 hp
    obtain ⟨o, h1, rfl⟩ := Option.map_eq_some_iff.1 h
    exact ⟨rfl, h1⟩
  refine ⟨rfl, rfl, rfl, Nat.le_refl _, fun _ _ _ => rfl, fun p h => ⟨(hp p h).2, fun e => by rw [(hp p h).1] at e; cases e⟩, ?_⟩
  exact List.Pairwise.imp_of_mem (fun {p q} h1 h2 _ _ => ⟨(hp p h1).1, (hp q h2).1⟩) (List.pairwise_of_forall (R := fun _ _ => True) fun _ _ => trivial)
section
variable {P : Program} {H : Type} {enc : TypeId × Value → H} {W : World} {base : Nat} {sp : Nat → Bool} {held : Bool} {fuel : Nat} {cs : List Value} {x : DataW H × List MemPlace}
/-- a slice that came in: nothing, or cells in a block -/
theorem slice_cells {t e : TypeId} {c : Nat} (ht : P.underlying t = some (.slice e)) (hc : P.cellsOf e = c) (hc0 : 0 < c) (hf : DataW.trod enc P W base sp held fuel t cs = some x) :
    ∃ v, cs = [v] ∧ ((∃ p k, v = .slice p 0 k) ∨ ∃ b off cap n arr et fr, 0 < n ∧ n ≤ Rows.uptoBulk x.1 ∧ n ≤ 9223372036854775807 ∧ n ≤ cap ∧ v = .slice (some ⟨b, off, none⟩) n cap ∧ W.heap[b]? = some (.cells arr et fr) ∧
      ∀ i, i < n → ∃ es fuel y, es.length = c ∧ DataW.trod enc P W base sp held fuel e es = some y ∧ Rows.uptoBulk y.1 ≤ Rows.uptoBulk x.1 ∧ ∀ j u, es[j]? = some u → arr[off + (i * c + j)]? = some u) := by
  rcases DataW.trod_slice ht hf with ⟨h, _⟩ | ⟨ad, len, cap, elems, rest, n, _, h, hx, _, hlc, hcm, hel, hels, _⟩
  · exact ⟨_, h, .inl ⟨_, _, rfl⟩⟩
  · refine ⟨_, h, ?_⟩
    subst hx
    rcases Nat.eq_zero_or_pos len with h0 | h0
    · exact .inl ⟨_, _, by rw [h0]⟩
    · have hcell : ∀ i, i < len → ∃ cs, cs.length = c ∧ (∃ x, DataW.trod enc P W base sp held n e cs = some x ∧ Rows.uptoBulk x.1 ≤ Rows.uptoBulk (DataW.slice (elems.map (·.1)) (rest.map (·.1)))) ∧ ∀ j, j < c → W.cell? ((ad.add (i * c)).add j) = cs[j]? := fun i hi => by
        have h1 := hels i hi
        rw [hc, List.getElem?_eq_getElem (by omega)] at h1
        obtain ⟨cs, hcs, htr⟩ := Option.bind_eq_some_iff.1 h1
        obtain ⟨_, h2, h3⟩ := World.cells?_some hcs
        exact ⟨cs, h2, ⟨_, htr, by
          have h9 := part_le (List.mem_map.2 ⟨elems[i], List.getElem_mem (by omega), rfl⟩ : elems[i].1 ∈ elems.map (·.1))
          simp only [Rows.uptoBulk]
          omega⟩, fun j hj => by rw [h3 j hj]⟩
      obtain ⟨g, off, spot⟩ := ad
      obtain ⟨cs0, hl0, _, hg0⟩ := hcell 0 h0
      have h00 := hg0 0 hc0
      rw [List.getElem?_eq_getElem (by omega)] at h00
      have h01 : W.cell? ⟨g, off, spot⟩ = some cs0[0] := by simpa [Addr.add] using h00
      have hs : spot = none ∧ ∃ c e fr, W.heap[g]? = some (.cells c e fr) := by
        unfold World.cell? at h01
        split at h01
        · rename_i c e fr hcell
          split at h01
          · cases h01
          · rename_i hsp
            exact ⟨by simpa using hsp, c, e, fr, hcell⟩
        · cases h01
      obtain ⟨rfl, arr, et, fr, hcl⟩ := hs
      refine .inr ⟨g, off, cap, len, arr, et, fr, h0, by
        have h9 := length_le (elems.map (·.1))
        rw [List.length_map] at h9
        simp only [Rows.uptoBulk]
        omega, by simp only [maxLen] at hcm; omega, by omega, rfl, hcl, fun i hi => ?_⟩
      obtain ⟨cs, h1, ⟨y, h2, h2'⟩, h3⟩ := hcell i hi
      refine ⟨cs, n, y, h1, h2, h2', fun j u hj => ?_⟩
      have hjl : j < c := by
        obtain ⟨h, _⟩ := List.getElem?_eq_some_iff.1 hj
        omega
      have := h3 j hjl
      rw [hj, add_lit, add_lit, cell_cells hcl, Nat.add_assoc] at this
      exact this
end
section
variable {H : Type} {enc : TypeId × Value → H} {W : World} {base : Nat} {sp : Nat → Bool} {held : Bool} {fuel : Nat} {cs : List Value} {x : DataW H × List MemPlace} {B : Nat}
theorem flat_length {α : Type} {f : α → List Value} {c : Nat} (h : ∀ a, (f a).length = c) : ∀ l : List α, (l.flatMap f).length = l.length * c
  | [] => by simp
  | a :: l => by
    rw [List.flatMap_cons, List.length_append, h, flat_length h l, List.length_cons, Nat.succ_mul, Nat.add_comm]
/-- a slice whose elements are told one by one -/
theorem rdx_of {α : Type} {t e : TypeId} {c B : Nat} {f : α → List Value} {ok : α → Prop} (d : α) (ht : Try.prog.underlying t = some (.slice e)) (hc : Try.prog.cellsOf e = c) (hc0 : 0 < c) (hfl : ∀ a, (f a).length = c)
    (hB : Rows.uptoBulk x.1 ≤ B) (he : ∀ fuel es x, DataW.trod enc Try.prog W base sp held fuel e es = some x → Rows.uptoBulk x.1 ≤ B → ∃ a, es = f a ∧ ok a) (hf : DataW.trod enc Try.prog W base sp held fuel t cs = some x) :
    ∃ (v : Value) (l : List α), cs = [v] ∧ l.length ≤ B ∧ RdX (allR W) v l.length (l.flatMap f) ∧ ∀ a ∈ l, ok a := by
  obtain ⟨v, rfl, h⟩ := slice_cells ht hc hc0 hf
  rcases h with ⟨p, k, rfl⟩ | ⟨b, off, cap, n, arr, et, fr, h0, hnB, h63, hlc, rfl, hb, hcs⟩
  · exact ⟨_, [], rfl, Nat.zero_le _, .inl ⟨p, k, rfl, rfl⟩, fun a ha => by cases ha⟩
  · have hex : ∀ i, ∃ a : α, i < n → ok a ∧ ∀ j u, (f a)[j]? = some u → arr[off + (i * c + j)]? = some u := fun i => by
      by_cases hi : i < n
      · obtain ⟨es, fuel, y, h1, h2, h2', h3⟩ := hcs i hi
        obtain ⟨a, rfl, ha⟩ := he fuel es y h2 (Nat.le_trans h2' hB)
        exact ⟨a, fun _ => ⟨ha, h3⟩⟩
      · exact ⟨d, fun h => absurd h hi⟩
    obtain ⟨g, hg⟩ := Classical.axiomOfChoice hex
    refine ⟨_, (List.range n).map g, rfl, by simpa using Nat.le_trans hnB hB, .inr ⟨b, off, cap, arr, et, fr, false, by simp, mem_all hb, by simpa using hlc, ?_⟩, fun a ha => ?_⟩
    · have key : ∀ (m : Nat), m ≤ n → ∀ j u, (((List.range m).map g).flatMap f)[j]? = some u → arr[off + j]? = some u := by
        intro m
        induction m with
        | zero => intro _ j u h; simp at h
        | succ m ih =>
          intro hm j u h
          rw [List.range_succ, List.map_append, List.flatMap_append] at h
          have hlen : (((List.range m).map g).flatMap f).length = m * c := by
            rw [flat_length hfl]
            simp
          by_cases hj : j < m * c
          · rw [List.getElem?_append_left (by rw [hlen]; exact hj)] at h
            exact ih (by omega) j u h
          · rw [List.getElem?_append_right (by rw [hlen]; omega), hlen] at h
            simp only [List.map_cons, List.map_nil, List.flatMap_cons, List.flatMap_nil, List.append_nil] at h
            have := (hg m (by omega)).2 (j - m * c) u h
            rwa [show m * c + (j - m * c) = j by omega] at this
      exact key n (Nat.le_refl _)
    · obtain ⟨i, hi, rfl⟩ := List.mem_map.1 ha
      exact (hg i (List.mem_range.1 hi)).1
theorem flat_one {α : Type} (f : α → Value) (l : List α) : l.flatMap (fun a => [f a]) = l.map f := by
  induction l with
  | nil => rfl
  | cons a l ih => rw [List.flatMap_cons, ih]; rfl
theorem ints_of (hB : Rows.uptoBulk x.1 ≤ B) (hf : DataW.trod enc Try.prog W base sp held fuel 35 cs = some x) : ∃ v l, cs = [v] ∧ l.length ≤ B ∧ RdX (allR W) v l.length (intV l) := by
  obtain ⟨v, l, h1, h0, h2, _⟩ := rdx_of (f := fun n : Int => [Value.int .i64 n]) (ok := fun _ => True) 0 Try.underlying35 (show Try.prog.cellsOf 3 = 1 by kernel_rfl) (by decide) (fun _ => rfl) hB (fun fuel es x h _ => by
    obtain ⟨n, h1, _, _⟩ := DataW.trod_int Try.underlying3 h
    exact ⟨n, h1, trivial⟩) hf
  rw [flat_one] at h2
  exact ⟨v, l, h1, h0, h2⟩
/-- a node that came in -/
def NvOk (R : List Ent) (B : Nat) (y : Nv) : Prop := RdX R y.kv y.nd.ks.length (intV y.nd.ks) ∧ y.nd.ks.length ≤ B ∧ y.nd.ty.length ≤ 9223372036854775807 ∧ y.nd.tx.length ≤ 9223372036854775807
theorem text_of (hf : DataW.trod enc Try.prog W base sp held fuel 9 cs = some x) : ∃ l : List UInt8, cs = [st l] ∧ l.length ≤ 9223372036854775807 := by
  obtain ⟨⟨⟨l⟩⟩, h1, _, h2⟩ := DataW.trod_string Try.underlying9 hf
  exact ⟨l, h1, by simpa [maxLen, ByteArray.size] using h2⟩
set_option maxRecDepth 100000 in
theorem node_of (hB : Rows.uptoBulk x.1 ≤ B) (h2 : DataW.trod enc Try.prog W base sp held fuel 38 cs = some x) : ∃ y : Nv, cs = nvC y ∧ NvOk (allR W) B y := by
  obtain ⟨xs, m, _, hx, h1, hlen, hf⟩ := DataW.trod_struct Try.underlying38 h2
  have c6 : Try.prog.cellsOf 38 = 6 := by kernel_rfl
  rw [c6] at h1
  have f0 : DataW.trod enc Try.prog W base sp held m 3 ((cs.drop 0).take (Try.prog.cellsOf 3)) = xs[0]? := hf 0 _ rfl
  have f1 : DataW.trod enc Try.prog W base sp held m 9 ((cs.drop 1).take (Try.prog.cellsOf 9)) = xs[1]? := hf 1 _ rfl
  have f2 : DataW.trod enc Try.prog W base sp held m 9 ((cs.drop 2).take (Try.prog.cellsOf 9)) = xs[2]? := hf 2 _ rfl
  have f3 : DataW.trod enc Try.prog W base sp held m 36 ((cs.drop 3).take (Try.prog.cellsOf 36)) = xs[3]? := hf 3 _ rfl
  have f4 : DataW.trod enc Try.prog W base sp held m 35 ((cs.drop 4).take (Try.prog.cellsOf 35)) = xs[4]? := hf 4 _ rfl
  have f5 : DataW.trod enc Try.prog W base sp held m 3 ((cs.drop 5).take (Try.prog.cellsOf 3)) = xs[5]? := hf 5 _ rfl
  have hl : xs.length = 6 := hlen
  rw [List.getElem?_eq_getElem (by rw [hl]; decide)] at f0 f1 f2 f3 f4 f5
  have hB4 : Rows.uptoBulk (xs[4]'(by rw [hl]; decide)).1 ≤ B := by
    have h9 := part_le (List.mem_map.2 ⟨xs[4]'(by rw [hl]; decide), List.getElem_mem _, rfl⟩ : (xs[4]'(by rw [hl]; decide)).1 ∈ xs.map (·.1))
    rw [hx] at hB
    simp only [Rows.uptoBulk] at hB
    omega
  have c1 : Try.prog.cellsOf 3 = 1 := by kernel_rfl
  have c2 : Try.prog.cellsOf 9 = 1 := by kernel_rfl
  have c3 : Try.prog.cellsOf 35 = 1 := by kernel_rfl
  have c5 : Try.prog.cellsOf 36 = 1 := by kernel_rfl
  rw [c1] at f0 f5
  rw [c2] at f1 f2
  rw [c3] at f4
  rw [c5] at f3
  match cs, h1 with
  | [v0, v1, v2, v3, v4, v5], _ =>
    obtain ⟨k, e0, _, _⟩ := DataW.trod_int Try.underlying3 f0
    obtain ⟨s1, e1, l1⟩ := text_of f1
    obtain ⟨s2, e2, l2⟩ := text_of f2
    obtain ⟨n, e3, _, _⟩ := DataW.trod_int Try.underlying36 f3
    obtain ⟨kv, ks, e4, l4, h4⟩ := ints_of hB4 f4
    obtain ⟨pl, e5, _, _⟩ := DataW.trod_int Try.underlying3 f5
    simp at e0 e1 e2 e3 e4 e5
    subst e0 e1 e2 e3 e4 e5
    exact ⟨⟨⟨k, s1, s2, n, ks, pl⟩, v4⟩, rfl, h4, l4, l1, l2⟩
set_option maxRecDepth 100000 in
theorem nodes_of (hB : Rows.uptoBulk x.1 ≤ B) (hf : DataW.trod enc Try.prog W base sp held fuel 30 cs = some x) : ∃ v l, cs = [v] ∧ l.length ≤ B ∧ RdT (allR W) v l ∧ ∀ y ∈ l, NvOk (allR W) B y := by
  obtain ⟨v, l, h1, h0, h2, h3⟩ := rdx_of (f := nvC) (ok := NvOk (allR W) B) nv0 Try.underlying30 (show Try.prog.cellsOf 38 = 6 by kernel_rfl) (by decide) (fun _ => rfl) hB (fun fuel es x h hb => node_of hb h) hf
  exact ⟨v, l, h1, h0, ⟨h2, fun y hy => (h3 y hy).1⟩, h3⟩
set_option maxRecDepth 100000 in
theorem open_tree {r : Reach} {b0 : Nat} {v : Value} {d : DataW H} {ps : List MemPlace} (hB : Rows.uptoBulk d ≤ B) (hval : Value.okWide Try.prog W r b0 32 v) (hd : DataW.Trod enc Try.prog W base sp held 32 v d ps) :
    ∃ tv l, v = .agg [tv].toArray ∧ l.length ≤ B ∧ RdT (allR W) tv l ∧ ∀ y ∈ l, NvOk (allR W) B y := by
  obtain ⟨⟨cs⟩, rfl, _⟩ := okWide_struct Try.underlying32 hval
  obtain ⟨fuel, hf0⟩ := hd
  have hf : DataW.trod enc Try.prog W base sp held fuel 32 cs = some (d, ps) := hf0
  obtain ⟨xs, m, _, hx, h1, hlen, hf⟩ := DataW.trod_struct Try.underlying32 hf
  have c1 : Try.prog.cellsOf 32 = 1 := by kernel_rfl
  rw [c1] at h1
  have hl : xs.length = 1 := hlen
  have f0 : DataW.trod enc Try.prog W base sp held m 30 ((cs.drop 0).take (Try.prog.cellsOf 30)) = xs[0]? := hf 0 _ rfl
  rw [List.getElem?_eq_getElem (by rw [hl]; decide)] at f0
  have c2 : Try.prog.cellsOf 30 = 1 := by kernel_rfl
  rw [c2] at f0
  have hB0 : Rows.uptoBulk (xs[0]'(by rw [hl]; decide)).1 ≤ B := by
    have h9 := part_le (List.mem_map.2 ⟨xs[0]'(by rw [hl]; decide), List.getElem_mem _, rfl⟩ : (xs[0]'(by rw [hl]; decide)).1 ∈ xs.map (·.1))
    cases hx
    simp only [Rows.uptoBulk] at hB
    omega
  match cs, h1 with
  | [v0], _ =>
    obtain ⟨tv, l, e1, h0, h2, h3⟩ := nodes_of hB0 f0
    simp at e1
    subst e1
    exact ⟨v0, l, rfl, h0, h2, h3⟩
end
/-- the wrap for a specification with a condition, the world's shape handed on -/
theorem handed_cond_shaped {H : Type} {enc : TypeId × Value → H} {a : Assume} {C : Checked} {os : Os} {f : FuncId} {fn : Func} {s : OpenSpec} {k : (H : Type) → List (DataW H) → Bool} (hk : s.cond = some k) {F : Stop.Interp} {conds : List PathCond} {apart fresh handsOn again : Bool}
    (own : ownKnob C.prog.godebug = none) (started : os.Started) (noInit : C.prog.inits.idxOf? f = none) (hfn : C.prog.funcs[f]? = some fn)
    (witness : ∃ (w : World) (tape : Tape) (i : Input), w.os = os ∧ (w.forCall tape i).Shaped C.prog ∧ i.vars = [] ∧ Input.okWide C.prog (w.forCall tape i) .any w.heap.size f i ∧
      s.pre6 enc C.prog fn conds apart (w.forCall tape i).memory i.args ∧ a.holds C.prog (lone (Frame.enter C.prog f i.args .normal) [] (w.forCall tape i)))
    (contract : ∀ (W : World) (base : Nat) (args : Array Value) (ds gs : List (DataW H)) (before : List MemPlace),
      (∀ (j : Nat) t v, fn.params[j]? = some t → args[j]? = some v → Value.okWide C.prog W .any base t v) →
      DataW.Whole enc C.prog fn.params.toList s.vars apart W args.toList ds gs before → k H (ds ++ gs) = true → W.ShapedOpen C.prog →
      Calls C.prog f args W fun e W' => ∃ v, e = .returned v ∧ (s.at F).post enc C.prog fn apart fresh handsOn again W args v W') :
    ReturnsInHanded a C os f .any (s.pre6 enc C.prog fn conds apart) ((s.at F).post enc C.prog fn apart fresh handsOn again) := by
  refine returnsInHanded_of_calls own started noInit witness ?_
  intro w tape i _ hsh _ hok hpre _
  obtain ⟨_, _, _, fn', hfn', _, _, _, _, hval⟩ := hok
  have e : fn' = fn := Option.some.inj (hfn'.symm.trans hfn)
  subst e
  obtain ⟨ds, gs, before, hw, _, hkk⟩ := (OpenSpec.pre_some hk conds apart _ _).1 hpre.1
  have hw' := DataW.Whole.of_heap (w' := w.forCall tape i) (by rfl) hw
  refine (contract (w.forCall tape i) w.heap.size i.args ds gs before hval hw' hkk hsh).mono fun e W' ⟨v, he, hp⟩ => ?_
  subst he
  exact ChangeSpec.post_blind hp
end Go.Proofs.Ytbinaeemcidicaa
