/- Slices that a function of its own makes and lets grow: a rule of the walk. No condition. -/
import Derived.Test.YthhfandandfeeaaDoorEng
import Derived.Defers
namespace Go.PB
open Go.RowKit
section
variable {P : Program} {ops : Array Oper} {Q : Exit → Act → World → Prop} {M : List Nat} {w0 : World} {n : Nat} {D : List Deferred} {L : List (Nat × Value)} {H : List Ent} {rest : List Oper}
  {d : Tmp} {oty t : TypeId} {pos : String} {after : Array Edge} {g : Option (Nat × Bool)} {x y : Operand}
theorem St.perm {w : World} {H' : List Ent} (h : St M w0 w H) (hp : List.Perm H H') : St M w0 w H' :=
  ⟨h.os, h.tape, h.output, h.size, h.frame, fun p hm => h.own p (hp.symm.subset hm), (hp.pairwise_iff (fun {p q} hpq e => (hpq e.symm).symm)).1 h.apart⟩
/-- an own slice: none yet, or a block, its room, its cells -/
abbrev Ow := Option (Nat × Nat × Array Value)
def ownV (n : Nat) : Ow → Value
  | none => .slice none 0 0
  | some o => .slice (some ⟨o.1, 0, none⟩) n o.2.1
def ownH (e : TypeId) : Ow → List Ent
  | none => []
  | some o => [⟨o.1, true, .cells o.2.2 e (0, 0)⟩]
def ownOk (n sz : Nat) (xs : List Value) : Ow → Prop
  | none => n = 0 ∧ xs = []
  | some o => n ≤ o.2.1 ∧ o.2.1 ≤ maxLen ∧ o.2.2.size = o.2.1 * sz ∧ o.2.2.toList.take (n * sz) = xs ∧ xs.length = n * sz
/-- what stands behind blocks is turned -/
def TailUp {X : Type} (H T : List Ent) (T' H' : X → List Ent) : Prop := ∃ A, H = A ++ T ∧ ∀ x, H' x = A ++ T' x
theorem TailUp.here {X : Type} {T : List Ent} {T' : X → List Ent} : TailUp T T T' T' := ⟨[], rfl, fun _ => rfl⟩
theorem TailUp.there {X : Type} {H T : List Ent} {T' H' : X → List Ent} {p : Ent} (h : TailUp H T T' H') : TailUp (p :: H) T T' (fun x => p :: H' x) := by
  obtain ⟨A, h1, h2⟩ := h
  exact ⟨p :: A, by rw [h1]; rfl, fun x => by show p :: H' x = _; rw [h2]; rfl⟩
theorem wl_append_own {e et : TypeId} {sz bytes m k c gb off : Nat} {o : Ow} {xs news z : List Value} {arr : Array Value} {fr : Nat × Nat} {wr : Bool} {H' : Ow → List Ent} (hg : gdv ops L g = some true) (hd : Nat.blt d n = true)
    (ht : Sl P t e) (hs : Sz P e sz) (hby : By P e bytes) (hz : Zero P e z) (hzl : z.length = sz)
    (hx : evo L x = some (ownV m o)) (hy : evo L y = some (.slice (some ⟨gb, off, none⟩) k c)) (hok : ownOk m sz xs o)
    (hm : (⟨gb, wr, .cells arr et fr⟩ : Ent) ∈ H) (hl : news.length = k * sz) (hc : ∀ (j : Nat) v, news[j]? = some v → arr[off + j]? = some v) (h1 : ∀ u ∈ news, u.oneCell' = true) (hk : 0 < k)
    (h63 : m + k ≤ maxLen) (hb : (m + k) * bytes ≤ 140737488355328) (hT : TailUp H (ownH e o) (ownH e) H')
    (h : ∀ o', ownOk (m + k) sz (xs ++ news) o' → Wl P ops Q M w0 n D rest ((d, ownV (m + k) o') :: L) (H' o')) :
    Wl P ops Q M w0 n D (⟨some d, .call { callee := .builtin .append, args := #[x, y], argTypes := #[t, t] }, oty, pos, after, g⟩ :: rest) L H := by
  unfold Wl
  intro a w hf hst
  unfold wpList
  rw [if_pos (by rw [wanted_of hf hg])]
  refine .inl ?_
  unfold Oper.wp
  have ht' : P.underlying t = some (.slice e) := ht
  obtain ⟨i, hi, hsz⟩ := Option.map_eq_some_iff.1 hs
  obtain ⟨i2, hi2, hbz⟩ := Option.map_eq_some_iff.1 hby
  obtain ⟨i3, zv, hi3, hzv, hzc⟩ := hz
  rw [hi] at hi2 hi3
  cases hi2
  cases hi3
  subst hsz hbz
  have hsmall : m + k ≤ 9223372036854775807 := by simp only [maxLen] at h63; omega
  have hzs : zv.cells.size = i.size := by rw [hzc]; simpa using hzl
  have hnews : ∀ j u, news[j]? = some u → w.cell? ((⟨gb, off, none⟩ : Addr).add j) = some u := fun j v hj => by rw [add_lit, cell_cells (hst.get hm)]; exact hc j v hj
  have hex : ∀ v, a.eval x = v → (execOp a.eval ⟨some d, .call { callee := .builtin .append, args := #[x, y], argTypes := #[t, t] }, oty, pos, after, g⟩).run P w =
      ((Builtin.append_ #[t, t] oty #[v, .slice (some ⟨gb, off, none⟩) k c]).run P w).andThen fun v w' => .ok (.value v) w' := fun v hv => by
    simp [execOp, resolve, invoke, builtin, hv, hf.eval hy]
  obtain ⟨A, hA, hA'⟩ := hT
  have fin : ∀ o' w', ownOk (m + k) i.size (xs ++ news) o' → St M w0 w' (A ++ ownH e o') → wpList P ops Q rest (a.put (some d) (ownV (m + k) o')) w' := fun o' w' ho hs' => by
    have := h o' ho
    unfold Wl at this
    exact this _ _ (hf.put (dst := some d) (by simpa using hd)) (by rw [hA']; exact hs')
  have grown : ∀ (old : Nat), old < m + k → ownOk (m + k) i.size (xs ++ news) (some (w.heap.size, grownCap w (m + k) old e, xs.toArray ++ news.toArray ++ Builtin.zeroCells zv.cells (grownCap w (m + k) old e - (m + k)))) ∨ xs.length ≠ m * i.size := fun old _ => by
    by_cases hxl : xs.length = m * i.size
    · refine .inl ⟨grownCap_ge w (m + k) old e, grownCap_le_maxLen w (m + k) old e h63, ?_, ?_, ?_⟩
      · have hge := grownCap_ge w (m + k) old e
        simp only [Array.size_append, List.size_toArray, size_zeroCells, hzs, hxl, hl, ← Nat.add_mul]
        congr 1
        omega
      · have hlen : (xs ++ news).length = (m + k) * i.size := by rw [List.length_append, hxl, hl, Nat.add_mul]
        simp only [Array.toList_append, List.append_assoc]
        rw [← List.append_assoc, ← hlen]
        exact List.take_left
      · rw [List.length_append, hxl, hl, Nat.add_mul]
    · exact .inr hxl
  cases o with
  | none =>
    obtain ⟨rfl, rfl⟩ := hok
    rw [hex _ (hf.eval hx)]
    have hr := run_append_nil (P := P) w t oty e i zv ht' hi hzv ⟨gb, off, none⟩ k c news hl hnews hk (by omega) (by rw [Nat.zero_add] at hb; omega)
    have hgr := (grown 0 (by omega)).resolve_right (by simp)
    rw [Nat.zero_add] at hgr
    have hst' : St M w0 w A := by rw [hA] at hst; simpa [ownH] using hst
    have := fin (some (w.heap.size, grownCap w k 0 e, news.toArray ++ Builtin.zeroCells zv.cells (grownCap w k 0 e - k))) _ (by rw [Nat.zero_add]; simpa using hgr) ((hst'.drew.alloc _).perm (List.perm_append_singleton _ _).symm)
    show Oper.upon _ _ _ _ _ (Result.andThen ((Builtin.append_ #[t, t] oty #[.slice none 0 0, .slice (some ⟨gb, off, none⟩) k c]).run P w) _)
    rw [hr]
    rw [Nat.zero_add] at this
    exact this
  | some o =>
    obtain ⟨b, cap, cur⟩ := o
    obtain ⟨k1, k2, k3, k4, k5⟩ := hok
    simp only at k1 k2 k3 k4
    have hmem : (⟨b, true, .cells cur e (0, 0)⟩ : Ent) ∈ H := by rw [hA]; simp [ownH]
    have hbg := hst.get hmem
    rw [hex _ (hf.eval hx)]
    by_cases hroom : m + k ≤ cap
    · have hfit : m * i.size + news.length ≤ cur.size := by rw [hl, k3, ← Nat.add_mul]; exact Nat.mul_le_mul_right _ hroom
      have hr := run_append_room (P := P) w t oty e i ht' hi b m cap cur hbg ⟨gb, off, none⟩ k c news hl hnews h1 hroom hfit
      show Oper.upon _ _ _ _ _ (Result.andThen ((Builtin.append_ #[t, t] oty #[.slice (some ⟨b, 0, none⟩) m cap, .slice (some ⟨gb, off, none⟩) k c]).run P w) _)
      rw [hr]
      refine fin (some (b, cap, (cur.toList.take (m * i.size) ++ news ++ cur.toList.drop (m * i.size + news.length)).toArray)) _ ⟨hroom, k2, ?_, ?_, ?_⟩ ?_
      · simp only [List.size_toArray, List.length_append, List.length_take, List.length_drop, Array.length_toList]
        omega
      · have hlen : (xs ++ news).length = (m + k) * i.size := by rw [List.length_append, k5, hl, Nat.add_mul]
        simp only
        rw [k4, ← hlen]
        exact List.take_left
      · rw [List.length_append, k5, hl, Nat.add_mul]
      · refine hst.upd ⟨A, [], ?_, ?_⟩ (b := b) (o := .cells cur e (0, 0)) (o' := .cells (cur.toList.take (m * i.size) ++ news ++ cur.toList.drop (m * i.size + news.length)).toArray e (0, 0)) ?_ ?_
        · rw [hA]; rfl
        · rfl
        · exact ⟨rfl, rfl, rfl, by simp, fun j _ hj => setRow_other w b j _ (fun e => hj (by rw [e]))⟩
        · exact setRow_heap w b cur _ e _ hbg
    · have holds : ∀ j u, xs[j]? = some u → w.cell? ((⟨b, 0, none⟩ : Addr).add j) = some u := fun j u hj => by
        rw [add_lit, Nat.zero_add, cell_cells hbg]
        rw [← k4, List.getElem?_take] at hj
        split at hj
        · simpa using hj
        · cases hj
      have hr := run_append_grow (P := P) w t oty e i zv ht' hi hzv ⟨b, 0, none⟩ m cap xs k5 holds ⟨gb, off, none⟩ k c news hl hnews (by omega) (by omega) (growslice_fits (by omega) hb)
      show Oper.upon _ _ _ _ _ (Result.andThen ((Builtin.append_ #[t, t] oty #[.slice (some ⟨b, 0, none⟩) m cap, .slice (some ⟨gb, off, none⟩) k c]).run P w) _)
      rw [hr]
      refine fin (some (w.heap.size, grownCap w (m + k) cap e, xs.toArray ++ news.toArray ++ Builtin.zeroCells zv.cells (grownCap w (m + k) cap e - (m + k)))) _ ((grown cap (by omega)).resolve_right (by simp [k5])) ?_
      have hst' : St M w0 w A := hst.sub (by rw [hA]; exact List.sublist_append_left _ _)
      exact (hst'.drew.alloc _).perm (List.perm_append_singleton _ _).symm
/-- a slice of a constant's bytes turned to its own type: its row bears a mark behind its last cell -/
theorem wl_convOwn {e : TypeId} {b m c : Nat} {l : List Value} {H' : List Ent} (hg : gdv ops L g = some true) (hd : Nat.blt d n = true) (ht : Sl P t e) (he : P.underlying e = some (.int .u8))
    (hx : evo L x = some (.slice (some ⟨b, 0, none⟩) m c)) (hu : Upd H b (row l e) (.cells l.toArray e (l.length, l.length + 1)) H')
    (h : Wl P ops Q M w0 n D rest ((d, .slice (some ⟨b, 0, none⟩) m c) :: L) H') : Wl P ops Q M w0 n D (⟨some d, .convert t t x, oty, pos, after, g⟩ :: rest) L H := by
  unfold Wl at h ⊢
  intro a w hf hst
  unfold wpList
  rw [if_pos (by rw [wanted_of hf hg])]
  refine .inl ?_
  unfold Oper.wp
  have ht' : P.underlying t = some (.slice e) := ht
  have hb : w.heap[b]? = some (.cells l.toArray e (0, 0)) := hst.get hu.mem
  have hsh : w.shape? b = some (e, l.length) := by
    unfold World.shape?
    rw [hb]
    rfl
  have hex : (execOp a.eval ⟨some d, .convert t t x, oty, pos, after, g⟩).run P w = .ok (.value (.slice (some ⟨b, 0, none⟩) m c)) (w.freeze ⟨b, l.length, none⟩ 1) := by
    simp [execOp, hf.eval hx, convert, run_underlying ht', run_underlying he, markStringish, hsh]
  rw [hex]
  refine h _ _ (hf.put (dst := some d) (by simpa using hd)) (hst.upd hu (w' := w.freeze ⟨b, l.length, none⟩ 1) ⟨rfl, rfl, rfl, by simp [World.freeze], fun k _ hk => ?_⟩ ?_)
  · have : b ≠ k := fun e => hk (by rw [e])
    simp [World.freeze, Array.getElem?_modify, this]
  · simp [World.freeze, Array.getElem?_modify, hb]
theorem ev_len_own {e : TypeId} {m sz : Nat} {xs : List Value} {o : Ow} (ht : Sl P t e) (hok : ownOk m sz xs o) (hx : evo L x = some (ownV m o)) : Ev P M w0 n D L H (.call { callee := .builtin .len, args := #[x], argTypes := #[t] }) oty (.int .i64 (m : Nat)) := by
  cases o with
  | none =>
    obtain ⟨rfl, _⟩ := hok
    exact ev_len_slice ht hx
  | some o => exact ev_len_slice ht hx
end
section
variable {P : Program} {fn : Func} {R : Ending → World → Prop} {M : List Nat} {w0 : World} {n : Nat} {L : List (Nat × Value)} {H : List Ent} {k : List Kt} {t : TypeId} {p q : Tmp} {b : Nat} {l : List Value} {e : TypeId} {wr : Bool} {v : Value}
theorem W.rettc (hr : fn.results = #[.tmp p, .cell q t]) (hv : look L p = some v) (hx : look L q = some (.pointer (some ⟨b, 0, none⟩))) (hu : Ag P t true) (hm : (⟨b, wr, row l e⟩ : Ent) ∈ H) (hs : Sz P t l.length)
    (h : ∀ w, St M w0 w H → R (.returned (.tuple #[v, .agg l.toArray])) w) : W P (bodyPost P fn R) M w0 n [] (.inl .ret :: k) L H :=
  W.ret fun a w hf hst => bodyPost_ret (v := .tuple #[v, .agg l.toArray]) (by simp [results, hr, hf.has p _ hv, hf.has q _ hx, asAddr, run_loadWhole hu hs (hst.get hm)]) hf.defers (h w hst)
end
end Go.PB
namespace Go.PB
open Go.RowKit
section
variable {P : Program}
/-- what is put off is a built-in function -/
def LeavesB (P : Program) (fn : Func) (tmps : Array Value) (R : Ending → World → Prop) : List Deferred → World → Prop
  | [], w => ∃ v, (results fn tmps).run P w = .ok v w ∧ R (.returned v) w
  | d :: ds, w => ∃ b ats ty cs v w', d.target = .builtin b ats ty cs ∧ (invoke d.target d.args).run P w = .ok (.value v) w' ∧ LeavesB P fn tmps R ds w'
theorem step_deferB {fr : Frame} {cs : List Frame} {w w' : World} {d : Deferred} {ds : List Deferred} {b : Builtin} {ats : Array TypeId} {ty : TypeId} {ks : Array Bool} {v : Value} (hm : fr.mode = .returning) (hd : fr.defers = d :: ds) (ht : d.target = .builtin b ats ty ks)
    (hi : (invoke d.target d.args).run P w = .ok (.value v) w') : step P (lone fr cs w) = .next (lone { fr with defers := ds } cs w') := by
  obtain ⟨t, a⟩ := d
  simp only at ht hi
  subst ht
  exact step_lone_go (by simp [stepG, unwind, callDeferred, hm, hd, hi])
theorem leavesB_steps {fn : Func} {tmps : Array Value} {R : Ending → World → Prop} : ∀ (ds : List Deferred) (w : World) (fr : Frame) (cs : List Frame), fr.mode = .returning → fr.defers = ds → fr.tmps = tmps → P.funcs[fr.fn]? = some fn → fr.kind = .normal → LeavesB P fn tmps R ds w →
    ∃ e w' fr', R e w' ∧ Comes P (lone fr cs w) (lone fr' cs w') e ∧ fr'.fn = fr.fn ∧ fr'.leaving P w' e := by
  intro ds
  induction ds with
  | nil =>
    intro w fr cs hu hd ht hf hk h
    obtain ⟨v, hr, hR⟩ := h
    exact ⟨.returned v, w, fr, hR, Steps.refl P _, rfl, hu, hd, hk, fn, hf, ht ▸ hr⟩
  | cons d ds ih =>
    intro w fr cs hu hd ht hf hk h
    obtain ⟨b, ats, ty, ks, v, w1, htar, hinv, hrest⟩ := h
    have h1 := step_deferB (cs := cs) hu hd htar hinv
    obtain ⟨e, w2, fr', hR, hs, hfn, hl⟩ := ih w1 { fr with defers := ds } cs hu rfl ht hf hk hrest
    exact ⟨e, w2, fr', hR, Comes.of_steps (.one h1) hs, hfn, hl⟩
def bodyPostB (P : Program) (fn : Func) (R : Ending → World → Prop) : Exit → Act → World → Prop
  | .normal, a, w | .ret, a, w => LeavesB P fn a.tmps R a.defers w
  | .outgrown, _, w => R .outgrown w
  | _, _, _ => False
theorem calls_of_wpB {f : FuncId} {fn : Func} {c : Code} {args : Array Value} {w : World} {R : Ending → World → Prop} (hf : P.funcs[f]? = some fn) (hb : fn.body = some c)
    (h : c.wp P (bodyPostB P fn R) { tmps := args ++ Array.replicate (fn.ntmps - args.size) undef, defers := [] } w) : Calls P f args w R := by
  intro cs
  let b : Frame := { (default : Frame) with fn := f, kind := .normal }
  have henter : Frame.enter P f args .normal = b.at { tmps := args ++ Array.replicate (fn.ntmps - args.size) undef, defers := [] } [.code c] := by
    simp [Frame.enter, Frame.at, hf, hb, b]
  obtain ⟨e, a', w', hq, harr⟩ := h b [] cs
  rw [← henter] at harr
  cases e with
  | normal =>
    obtain ⟨e', w'', fr', hR, hs, hfn, hl⟩ := leavesB_steps a'.defers w' { b.at a' [] with mode := .returning } cs rfl rfl rfl hf rfl hq
    exact ⟨e', w'', fr', hR, Comes.of_steps (Steps.trans harr (.one step_end)) hs, hfn, hl⟩
  | ret =>
    obtain ⟨todo, hs₀⟩ := harr
    obtain ⟨e', w'', fr', hR, hs, hfn, hl⟩ := leavesB_steps a'.defers w' { b.at a' todo with mode := .returning } cs rfl rfl rfl hf rfl hq
    exact ⟨e', w'', fr', hR, Comes.of_steps hs₀ hs, hfn, hl⟩
  | panic chain => exact hq.elim
  | exit id => exact hq.elim
  | goto l => exact hq.elim
  | outgrown => exact ⟨.outgrown, w', b, hq, harr.resolve_left (by simp [b]), rfl, trivial⟩
theorem calls_of_WB {f : FuncId} {fn : Func} {c : Code} {vs : List Value} {w : World} {R : Ending → World → Prop} {n : Nat} {H : List Ent} {M : List Nat}
    (hf : P.funcs[f]? = some fn) (hb : fn.body = some c) (hn : fn.ntmps = n) (hl : vs.length ≤ n) (hs : St M w w H)
    (h : W P (bodyPostB P fn R) M w n [] [.inl c] (argL 0 vs) H) : Calls P f vs.toArray w R := by
  refine calls_of_wpB hf hb ?_
  unfold W at h
  refine h _ _ ⟨?_, rfl, fun i v hi => ?_⟩ hs
  · simp; omega
  · obtain ⟨_, h2⟩ := look_argL hi
    simp only [Nat.sub_zero] at h2
    have hlt := (List.getElem?_eq_some_iff.1 h2).1
    rw [Array.getElem?_append_left (by simpa using hlt)]
    simpa using h2
/-- an entry struck -/
def tdel : Tab → List UInt8 → Tab
  | [], _ => []
  | (k', v, b) :: r, k => if k' = k then r else (k', v, b) :: tdel r k
theorem tdel_idx (key : List UInt8) : ∀ (tab : Tab) (i : Nat), (∀ j v, tidx tab key i = some (j, v) → i ≤ j ∧ tab.eraseIdx (j - i) = tdel tab key) ∧ (tidx tab key i = none → tdel tab key = tab)
  | [], i => ⟨fun j v h => (by cases h), fun _ => rfl⟩
  | (k', v', b) :: r, i => by
    simp only [tidx, tdel]
    split
    · refine ⟨fun j v h => ?_, fun h => by cases h⟩
      simp only [Option.some.injEq, Prod.mk.injEq] at h
      obtain ⟨rfl, _⟩ := h
      exact ⟨Nat.le_refl _, by simp⟩
    · obtain ⟨h1, h2⟩ := tdel_idx key r (i + 1)
      refine ⟨fun j v h => ?_, fun h => by rw [h2 h]⟩
      obtain ⟨h3, h4⟩ := h1 j v h
      refine ⟨by omega, ?_⟩
      rw [show j - i = (j - (i + 1)) + 1 by omega, List.eraseIdx_cons_succ, h4]
theorem tidx_lt (key : List UInt8) : ∀ (tab : Tab) (i j : Nat) (v : Value), tidx tab key i = some (j, v) → j < i + tab.length
  | [], i, j, v, h => by cases h
  | (k', v', b) :: r, i, j, v, h => by
    simp only [tidx] at h
    split at h
    · simp only [Option.some.injEq, Prod.mk.injEq] at h
      simp only [List.length_cons]
      omega
    · have := tidx_lt key r (i + 1) j v h
      simp only [List.length_cons]
      omega
theorem eraseIdx_map' {α β : Type} (f : α → β) : ∀ (l : List α) (j : Nat), (l.map f).eraseIdx j = (l.eraseIdx j).map f
  | [], _ => rfl
  | _ :: _, 0 => rfl
  | a :: l, j + 1 => by simp [eraseIdx_map' f l j]
theorem run_delete {w : World} {t kt e oty : TypeId} {b c : Nat} {tab : Tab} {key : List UInt8} (ht : Mp P t kt e) (hb : w.heap[b]? = some (mobj tab c)) :
    (Builtin.delete_ #[t, kt] oty #[.map (some b), .string ⟨key.toArray⟩]).run P w = .ok (.tuple #[]) { w with heap := w.heap.setIfInBounds b (mobj (tdel tab key) c) } := by
  have hfn := findNow_tab key tab 0
  obtain ⟨h1, h2⟩ := tdel_idx key tab 0
  cases hx : tidx tab key 0 with
  | none =>
    rw [hx] at hfn
    rw [h2 hx]
    simp [Builtin.delete_, run_underlying ht.1, getObj, setObj, Sem.run, hb, mobj, run_checkKey_string ht.2, Instr.findKey, run_underlying ht.2, hfn]
  | some p =>
    obtain ⟨j, v⟩ := p
    rw [hx] at hfn
    obtain ⟨_, h3⟩ := h1 j v hx
    have hlt := tidx_lt key tab 0 j v hx
    rw [← h3]
    simp [Builtin.delete_, run_underlying ht.1, getObj, setObj, Sem.run, hb, mobj, run_checkKey_string ht.2, Instr.findKey, run_underlying ht.2, hfn]
    rw [eraseIdx_map']
end
section
variable {P : Program} {ops : Array Oper} {Q : Exit → Act → World → Prop} {M : List Nat} {w0 : World} {n : Nat} {D : List Deferred} {L : List (Nat × Value)} {H : List Ent} {rest : List Oper}
  {d : Tmp} {oty t t' : TypeId} {pos : String} {after : Array Edge} {g : Option (Nat × Bool)} {x y : Operand}
theorem del_st {w : World} {H' : List Ent} {b c : Nat} {tab : Tab} {key : List UInt8} (hst : St M w0 w H) (hu : Upd H b (mobj tab c) (mobj (tdel tab key) c) H') : St M w0 { w with heap := w.heap.setIfInBounds b (mobj (tdel tab key) c) } H' := by
  have hb := hst.get hu.mem
  have hlt := lt_of_get hb
  exact hst.upd hu (w' := { w with heap := w.heap.setIfInBounds b (mobj (tdel tab key) c) }) ⟨rfl, rfl, rfl, by simp, fun k _ hk => by
    have : b ≠ k := fun e => hk (by rw [e])
    simp [Array.getElem?_setIfInBounds_ne this]⟩ (by simp [hlt])
theorem wl_deferDelete0 {b : Nat} {key : List UInt8} {ats : Array TypeId} (hg : gdv ops L g = some true) (hx : evo L x = some (.map (some b))) (hy : evo L y = some (.string ⟨key.toArray⟩))
    (h : ∀ cs, Wl P ops Q M w0 n (⟨.builtin .delete ats oty cs, #[.map (some b), .string ⟨key.toArray⟩]⟩ :: D) rest L H) :
    Wl P ops Q M w0 n D (⟨none, .defer { callee := .builtin .delete, args := #[x, y], argTypes := ats }, oty, pos, after, g⟩ :: rest) L H := by
  unfold Wl at h ⊢
  intro a w hf hs
  unfold wpList
  rw [if_pos (by rw [wanted_of hf hg])]
  refine .inl ?_
  unfold Oper.wp
  obtain ⟨cs, hr⟩ : ∃ cs, (execOp a.eval ⟨none, .defer { callee := .builtin .delete, args := #[x, y], argTypes := ats }, oty, pos, after, g⟩).run P w = .ok (.defer ⟨.builtin .delete ats oty cs, #[.map (some b), .string ⟨key.toArray⟩]⟩) w := ⟨_, by
    simp [execOp, resolve, hf.eval hx, hf.eval hy]
    rfl⟩
  rw [hr]
  refine h cs _ _ ?_ hs
  have := hf.put (dst := none) (v := undef) (by simp)
  exact ⟨this.size, by simp [Act.put, hf.defers], this.has⟩
theorem W.retB0 {fn : Func} {R : Ending → World → Prop} {k : List Kt} {p : Tmp} {v : Value} (hr : fn.results = #[.tmp p]) (hv : look L p = some v) (h : ∀ w, St M w0 w H → R (.returned v) w) : W P (bodyPostB P fn R) M w0 n [] (.inl .ret :: k) L H :=
  W.ret fun a w hf hs => by
    show LeavesB P fn a.tmps R a.defers w
    rw [hf.defers]
    exact ⟨v, by simp [results, hr, hf.has p v hv], h w hs⟩
theorem W.retB1 {fn : Func} {R : Ending → World → Prop} {k : List Kt} {p : Tmp} {v : Value} {kt e : TypeId} {b c : Nat} {tab : Tab} {key : List UInt8} {cs : Array Bool} {H' : List Ent} (hr : fn.results = #[.tmp p]) (hv : look L p = some v) (ht : Mp P t kt e)
    (hu : Upd H b (mobj tab c) (mobj (tdel tab key) c) H') (h : ∀ w, St M w0 w H' → R (.returned v) w) : W P (bodyPostB P fn R) M w0 n [⟨.builtin .delete #[t, kt] oty cs, #[.map (some b), .string ⟨key.toArray⟩]⟩] (.inl .ret :: k) L H :=
  W.ret fun a w hf hs => by
    show LeavesB P fn a.tmps R a.defers w
    rw [hf.defers]
    have hd := run_delete (oty := oty) (key := key) ht (hs.get hu.mem)
    exact ⟨.delete, _, _, _, .tuple #[], _, rfl, by simp [invoke, builtin, hd], v, by simp [results, hr, hf.has p v hv], h _ (del_st hs hu)⟩
theorem ev_makeFunc {f : Fn} {cs : List Operand} {vs : List Value} (hv : evos L cs = some vs) : Ev P M w0 n D L H (.makeFunc f #[] cs.toArray) oty (.func f #[] vs.toArray) := by
  unfold Ev
  intro a w hf _ dst pos after g
  have he := hf.evals hv
  simp [execOp, Instr.makeFunc, he]
end
end Go.PB
namespace Go.PB
open Go.RowKit
section
variable {P : Program} {ops : Array Oper} {Q : Exit → Act → World → Prop} {M : List Nat} {w0 : World} {n : Nat} {D : List Deferred} {L : List (Nat × Value)} {H : List Ent} {rest : List Oper}
  {oty t : TypeId} {pos : String} {after : Array Edge} {g : Option (Nat × Bool)} {x y : Operand}
end
end Go.PB
namespace Go.PB
open Go.RowKit Go.Lib
section
variable {P : Program} {ops : Array Oper} {Q : Exit → Act → World → Prop} {M : List Nat} {w0 w w' : World} {n : Nat} {D : List Deferred} {L : List (Nat × Value)} {H : List Ent} {rest : List Oper}
  {d : Tmp} {oty t t' : TypeId} {pos : String} {after : Array Edge} {g : Option (Nat × Bool)} {x y : Operand}
/-- the blocks that may be written -/
def wrs (H : List Ent) : List Nat := (H.filter (·.wr)).map (·.b)
theorem St.fromHere (h : St M w0 w H) : St (wrs H) w w H :=
  ⟨rfl, rfl, rfl, Nat.le_refl _, fun _ _ _ => rfl, fun p hp => ⟨(h.own p hp).1, fun hw => .inr (List.mem_map.2 ⟨p, List.mem_filter.2 ⟨hp, hw⟩, rfl⟩)⟩, h.apart⟩
theorem St.go {H' : List Ent} (h : St M w0 w H) (h' : St (wrs H) w w' H') : St M w0 w' H' := by
  have hm : ∀ k, k ∈ wrs H → w0.heap.size ≤ k ∨ k ∈ M := fun k hk => by
    obtain ⟨p, hp, rfl⟩ := List.mem_map.1 hk
    obtain ⟨hp, hw⟩ := List.mem_filter.1 hp
    exact (h.own p hp).2 hw
  refine ⟨h'.os.trans h.os, h'.tape.trans h.tape, h'.output.trans h.output, Nat.le_trans h.size h'.size, fun k hk hkM => ?_, fun p hp => ⟨(h'.own p hp).1, fun hw => ?_⟩, h'.apart⟩
  · rw [h'.frame k (Nat.lt_of_lt_of_le hk h.size) fun hk' => ?_]
    · exact h.frame k hk hkM
    · rcases hm k hk' with h1 | h1
      · omega
      · exact hkM h1
  · rcases (h'.own p hp).2 hw with h1 | h1
    · exact .inl (Nat.le_trans h.size h1)
    · exact hm _ h1
/-- a contract: what the caller knows of memory is turned into what it knows behind the call -/
def GivesS {X : Type} (val : X → Value) (φ : X → Prop) (M : List Nat) (w0 : World) (H' : X → List Ent) : Ending → World → Prop := fun e w' => ∃ x, φ x ∧ e = .returned (val x) ∧ St M w0 w' (H' x)
theorem GivesS.of {X : Type} {val : X → Value} {φ : X → Prop} {H' : X → List Ent} {H1 : List Ent} {v : Value} (hst : St M w0 w H) (hs : St (wrs H) w w' H1) (q : X) (hφ : φ q) (hv : v = val q) (hh : SubH (H' q) H1) : GivesS val φ M w0 H' (.returned v) w' :=
  ⟨q, hφ, by rw [hv], (hst.go hs).sub hh⟩
theorem wl_callS {f : FuncId} {xs : List Operand} {vs : List Value} {ats : Array TypeId} {X : Type} {val : X → Value} {φ : X → Prop} {H' : X → List Ent} (hg : gdv ops L g = some true) (hd : Nat.blt d n = true)
    (hh : Has P f) (hv : evos L xs = some vs) (hc : ∀ w, St M w0 w H → Calls P f vs.toArray w (GivesS val φ M w0 H')) (h : ∀ q, φ q → Wl P ops Q M w0 n D rest ((d, val q) :: L) (H' q)) :
    Wl P ops Q M w0 n D (⟨some d, .call { callee := .value (.func f), args := xs.toArray, argTypes := ats }, oty, pos, after, g⟩ :: rest) L H := by
  unfold Wl at h ⊢
  intro a w hf hs
  unfold wpList
  rw [if_pos (by rw [wanted_of hf hg])]
  refine .inl ?_
  unfold Oper.wp
  rw [run_call hf hh (fx := .func f) (cs := []) rfl hv]
  simp only [List.append_nil]
  refine (hc w hs).mono fun e w' hR => ?_
  obtain ⟨q, hq, rfl, hx⟩ := hR
  exact h q hq _ _ (hf.put (dst := some d) (by simpa using hd)) hx
theorem TailUp.app {X : Type} {A T : List Ent} {T' : X → List Ent} : TailUp (A ++ T) T T' (fun x => A ++ T' x) := ⟨A, rfl, fun _ => rfl⟩
/-- a call by its contract: what it has made stands behind what there was -/
theorem wl_callY {f : FuncId} {xs : List Operand} {vs : List Value} {ats : Array TypeId} {X : Type} {val : X → Value} {φ : X → Prop} {news : X → List (Nat × Obj)} (hg : gdv ops L g = some true) (hd : Nat.blt d n = true)
    (hh : Has P f) (hv : evos L xs = some vs) (hc : ∀ w, St M w0 w H → Calls P f vs.toArray w (Gives val φ w (fun _ => []) news)) (h : ∀ x, φ x → Wl P ops Q M w0 n D rest ((d, val x) :: L) (H ++ ents (news x))) :
    Wl P ops Q M w0 n D (⟨some d, .call { callee := .value (.func f), args := xs.toArray, argTypes := ats }, oty, pos, after, g⟩ :: rest) L H :=
  wl_callX hg hd hh hv hc fun x hx => by
    have := h x hx
    unfold Wl at this ⊢
    exact fun a w hf hs => this a w hf (hs.perm List.perm_append_comm)
theorem ev_slice_lAny {e : TypeId} {sz b off m c : Nat} {lo : Operand} {k : IntKind} {i : Int} (ht : Sl P t e) (hs : Sz P e sz) (hx : evo L x = some (.slice (some ⟨b, off, none⟩) m c)) (hlo : evo L lo = some (.int k i)) (hb : 0 ≤ i ∧ i ≤ m) :
    Ev P M w0 n D L H (.slice t x (some lo) none none) oty (.slice (some ⟨b, if c = i.toNat then off else off + i.toNat * sz, none⟩) (m - i.toNat) (c - i.toNat)) := by
  unfold Ev
  intro a w hf _ dst pos after g
  have ht' : P.underlying t = some (.slice e) := ht
  by_cases hne : c = i.toNat
  · simp [execOp, hf.eval hx, hf.eval hlo, Instr.sliceAt, Instr.slice, Instr.sliceBounds, Instr.sliceBound, asIntOf, run_underlying ht', hb.1, hb.2, run_sizeOf hs, add_lit, hne]
  · simp [execOp, hf.eval hx, hf.eval hlo, Instr.sliceAt, Instr.slice, Instr.sliceBounds, Instr.sliceBound, asIntOf, run_underlying ht', hb.1, hb.2, run_sizeOf hs, add_lit, hne]
/-- a call of a closure, which turns what is known of memory -/
theorem wl_callC {f : FuncId} {xs : List Operand} {vs cs : List Value} {fx : Operand} {ats : Array TypeId} {X : Type} {val : X → Value} {φ : X → Prop} {H' : X → List Ent} (hg : gdv ops L g = some true) (hd : Nat.blt d n = true)
    (hh : Has P f) (hfx : evo L fx = some (.func (.func f) #[] cs.toArray)) (hv : evos L xs = some vs) (hc : ∀ w, St M w0 w H → Calls P f (vs ++ cs).toArray w (GivesS val φ M w0 H')) (h : ∀ q, φ q → Wl P ops Q M w0 n D rest ((d, val q) :: L) (H' q)) :
    Wl P ops Q M w0 n D (⟨some d, .call { callee := .value fx, args := xs.toArray, argTypes := ats }, oty, pos, after, g⟩ :: rest) L H := by
  unfold Wl at h ⊢
  intro a w hf hs
  unfold wpList
  rw [if_pos (by rw [wanted_of hf hg])]
  refine .inl ?_
  unfold Oper.wp
  rw [run_call hf hh hfx hv]
  refine (hc w hs).mono fun e w' hR => ?_
  obtain ⟨q, hq, rfl, hx⟩ := hR
  exact h q hq _ _ (hf.put (dst := some d) (by simpa using hd)) hx
end
theorem W.reH {P : Program} {Z : Exit → Act → World → Prop} {M : List Nat} {w0 : World} {n : Nat} {D : List Deferred} {L : List (Nat × Value)} {H H' : List Ent} {k : List Kt} (hH : ∀ w, St M w0 w H → St M w0 w H') (h : W P Z M w0 n D k L H') : W P Z M w0 n D k L H := by
  unfold W at h ⊢
  exact fun a w hf hs => h a w hf (hH w hs)
end Go.PB
