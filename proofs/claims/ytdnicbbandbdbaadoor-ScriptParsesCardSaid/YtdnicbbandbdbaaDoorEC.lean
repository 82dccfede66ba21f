/- Rules of the walk: closures made, calls that are put off, entries struck from maps. No condition. -/
import Derived.Test.YtdnicbbandbdbaaDoorEO
import Derived.Defers
namespace Go.PB
open Go.RowKit
section
variable {P : Program}
/-- what is put off is a built-in function -/
def LeavesB (P : Program) (fn : Func) (tmps : Array Value) (R : Ending → World → Prop) : List Deferred → World → Prop
  | [], w => ∃ v, (results fn tmps).run P w = .ok v w ∧ R (.returned v) w
  | d :: ds, w => ∃ b ats ty cs v w', d.target = .builtin b ats ty cs ∧ (invoke d.target d.args).run P w = .ok (.value v) w' ∧ LeavesB P fn tmps R ds w'
theorem step_deferB {fr : Frame} {cs : List Frame} {w w' : World} {d : Deferred} {ds : List Deferred} {b : Builtin} {ats : Array TypeId} {ty : TypeId} {ks : Array Bool} {v : Value} (hm : fr.mode = .returning) (hd : fr.defers = d :: ds) (ht : d.target = .builtin b ats ty ks)
    (hi : (invoke d.target d.args).run P w = .ok (.value v) w') : step P (lone fr cs w) = .next (lone { fr with defers := ds } cs w') := by
  obtain ⟨t, a⟩ := d
  simp only at ht hi
  subst ht
  exact step_lone_go (by simp [stepG, unwind, callDeferred, hm, hd, hi])
theorem leavesB_steps {fn : Func} {tmps : Array Value} {R : Ending → World → Prop} : ∀ (ds : List Deferred) (w : World) (fr : Frame) (cs : List Frame), fr.mode = .returning → fr.defers = ds → fr.tmps = tmps → P.funcs[fr.fn]? = some fn → fr.kind = .normal → LeavesB P fn tmps R ds w →
    ∃ e w' fr', R e w' ∧ Comes P (lone fr cs w) (lone fr' cs w') e ∧ fr'.fn = fr.fn ∧ fr'.leaving P w' e := by
  intro ds
  induction ds with
  | nil =>
    intro w fr cs hu hd ht hf hk h
    obtain ⟨v, hr, hR⟩ := h
    exact ⟨.returned v, w, fr, hR, Steps.refl P _, rfl, hu, hd, hk, fn, hf, ht ▸ hr⟩
  | cons d ds ih =>
    intro w fr cs hu hd ht hf hk h
    obtain ⟨b, ats, ty, ks, v, w1, htar, hinv, hrest⟩ := h
    have h1 := step_deferB (cs := cs) hu hd htar hinv
    obtain ⟨e, w2, fr', hR, hs, hfn, hl⟩ := ih w1 { fr with defers := ds } cs hu rfl ht hf hk hrest
    exact ⟨e, w2, fr', hR, Comes.of_steps (.one h1) hs, hfn, hl⟩
def bodyPostB (P : Program) (fn : Func) (R : Ending → World → Prop) : Exit → Act → World → Prop
  | .normal, a, w | .ret, a, w => LeavesB P fn a.tmps R a.defers w
  | .outgrown, _, w => R .outgrown w
  | _, _, _ => False
theorem calls_of_wpB {f : FuncId} {fn : Func} {c : Code} {args : Array Value} {w : World} {R : Ending → World → Prop} (hf : P.funcs[f]? = some fn) (hb : fn.body = some c)
    (h : c.wp P (bodyPostB P fn R) { tmps := args ++ Array.replicate (fn.ntmps - args.size) undef, defers := [] } w) : Calls P f args w R := by
  intro cs
  let b : Frame := { (default : Frame) with fn := f, kind := .normal }
  have henter : Frame.enter P f args .normal = b.at { tmps := args ++ Array.replicate (fn.ntmps - args.size) undef, defers := [] } [.code c] := by
    simp [Frame.enter, Frame.at, hf, hb, b]
  obtain ⟨e, a', w', hq, harr⟩ := h b [] cs
  rw [← henter] at harr
  cases e with
  | normal =>
    obtain ⟨e', w'', fr', hR, hs, hfn, hl⟩ := leavesB_steps a'.defers w' { b.at a' [] with mode := .returning } cs rfl rfl rfl hf rfl hq
    exact ⟨e', w'', fr', hR, Comes.of_steps (Steps.trans harr (.one step_end)) hs, hfn, hl⟩
  | ret =>
    obtain ⟨todo, hs₀⟩ := harr
    obtain ⟨e', w'', fr', hR, hs, hfn, hl⟩ := leavesB_steps a'.defers w' { b.at a' todo with mode := .returning } cs rfl rfl rfl hf rfl hq
    exact ⟨e', w'', fr', hR, Comes.of_steps hs₀ hs, hfn, hl⟩
  | panic chain => exact hq.elim
  | exit id => exact hq.elim
  | goto l => exact hq.elim
  | outgrown => exact ⟨.outgrown, w', b, hq, harr.resolve_left (by simp [b]), rfl, trivial⟩
theorem calls_of_WB {f : FuncId} {fn : Func} {c : Code} {vs : List Value} {w : World} {R : Ending → World → Prop} {n : Nat} {H : List Ent} {M : List Nat}
    (hf : P.funcs[f]? = some fn) (hb : fn.body = some c) (hn : fn.ntmps = n) (hl : vs.length ≤ n) (hs : St M w w H)
    (h : W P (bodyPostB P fn R) M w n [] [.inl c] (argL 0 vs) H) : Calls P f vs.toArray w R := by
  refine calls_of_wpB hf hb ?_
  unfold W at h
  refine h _ _ ⟨?_, rfl, fun i v hi => ?_⟩ hs
  · simp; omega
  · obtain ⟨_, h2⟩ := look_argL hi
    simp only [Nat.sub_zero] at h2
    have hlt := (List.getElem?_eq_some_iff.1 h2).1
    rw [Array.getElem?_append_left (by simpa using hlt)]
    simpa using h2
/-- an entry struck -/
def tdel : Tab → List UInt8 → Tab
  | [], _ => []
  | (k', v, b) :: r, k => if k' = k then r else (k', v, b) :: tdel r k
theorem tdel_idx (key : List UInt8) : ∀ (tab : Tab) (i : Nat), (∀ j v, tidx tab key i = some (j, v) → i ≤ j ∧ tab.eraseIdx (j - i) = tdel tab key) ∧ (tidx tab key i = none → tdel tab key = tab)
  | [], i => ⟨fun j v h => (by cases h), fun _ => rfl⟩
  | (k', v', b) :: r, i => by
    simp only [tidx, tdel]
    split
    · refine ⟨fun j v h => ?_, fun h => by cases h⟩
      simp only [Option.some.injEq, Prod.mk.injEq] at h
      obtain ⟨rfl, _⟩ := h
      exact ⟨Nat.le_refl _, by simp⟩
    · obtain ⟨h1, h2⟩ := tdel_idx key r (i + 1)
      refine ⟨fun j v h => ?_, fun h => by rw [h2 h]⟩
      obtain ⟨h3, h4⟩ := h1 j v h
      refine ⟨by omega, ?_⟩
      rw [show j - i = (j - (i + 1)) + 1 by omega, List.eraseIdx_cons_succ, h4]
theorem tidx_lt (key : List UInt8) : ∀ (tab : Tab) (i j : Nat) (v : Value), tidx tab key i = some (j, v) → j < i + tab.length
  | [], i, j, v, h => by cases h
  | (k', v', b) :: r, i, j, v, h => by
    simp only [tidx] at h
    split at h
    · simp only [Option.some.injEq, Prod.mk.injEq] at h
      simp only [List.length_cons]
      omega
    · have := tidx_lt key r (i + 1) j v h
      simp only [List.length_cons]
      omega
theorem eraseIdx_map' {α β : Type} (f : α → β) : ∀ (l : List α) (j : Nat), (l.map f).eraseIdx j = (l.eraseIdx j).map f
  | [], _ => rfl
  | _ :: _, 0 => rfl
  | a :: l, j + 1 => by simp [eraseIdx_map' f l j]
theorem run_delete {w : World} {t kt e oty : TypeId} {b c : Nat} {tab : Tab} {key : List UInt8} (ht : Mp P t kt e) (hb : w.heap[b]? = some (mobj tab c)) :
    (Builtin.delete_ #[t, kt] oty #[.map (some b), .string ⟨key.toArray⟩]).run P w = .ok (.tuple #[]) { w with heap := w.heap.setIfInBounds b (mobj (tdel tab key) c) } := by
  have hfn := findNow_tab key tab 0
  obtain ⟨h1, h2⟩ := tdel_idx key tab 0
  cases hx : tidx tab key 0 with
  | none =>
    rw [hx] at hfn
    rw [h2 hx]
    simp [Builtin.delete_, run_underlying ht.1, getObj, setObj, Sem.run, hb, mobj, run_checkKey_string ht.2, Instr.findKey, run_underlying ht.2, hfn]
  | some p =>
    obtain ⟨j, v⟩ := p
    rw [hx] at hfn
    obtain ⟨_, h3⟩ := h1 j v hx
    have hlt := tidx_lt key tab 0 j v hx
    rw [← h3]
    simp [Builtin.delete_, run_underlying ht.1, getObj, setObj, Sem.run, hb, mobj, run_checkKey_string ht.2, Instr.findKey, run_underlying ht.2, hfn]
    rw [eraseIdx_map']
end
section
variable {P : Program} {ops : Array Oper} {Q : Exit → Act → World → Prop} {M : List Nat} {w0 : World} {n : Nat} {D : List Deferred} {L : List (Nat × Value)} {H : List Ent} {rest : List Oper}
  {d : Tmp} {oty t t' : TypeId} {pos : String} {after : Array Edge} {g : Option (Nat × Bool)} {x y : Operand}
theorem del_st {w : World} {H' : List Ent} {b c : Nat} {tab : Tab} {key : List UInt8} (hst : St M w0 w H) (hu : Upd H b (mobj tab c) (mobj (tdel tab key) c) H') : St M w0 { w with heap := w.heap.setIfInBounds b (mobj (tdel tab key) c) } H' := by
  have hb := hst.get hu.mem
  have hlt := lt_of_get hb
  exact hst.upd hu (w' := { w with heap := w.heap.setIfInBounds b (mobj (tdel tab key) c) }) ⟨rfl, rfl, rfl, by simp, fun k _ hk => by
    have : b ≠ k := fun e => hk (by rw [e])
    simp [Array.getElem?_setIfInBounds_ne this]⟩ (by simp [hlt])
theorem wl_delete {kt e : TypeId} {b c : Nat} {tab : Tab} {key : List UInt8} {H' : List Ent} (hg : gdv ops L g = some true) (hd : Nat.blt d n = true) (ht : Mp P t kt e) (hx : evo L x = some (.map (some b))) (hy : evo L y = some (.string ⟨key.toArray⟩))
    (hu : Upd H b (mobj tab c) (mobj (tdel tab key) c) H') (h : Wl P ops Q M w0 n D rest ((d, .tuple #[]) :: L) H') :
    Wl P ops Q M w0 n D (⟨some d, .call { callee := .builtin .delete, args := #[x, y], argTypes := #[t, kt] }, oty, pos, after, g⟩ :: rest) L H :=
  Wl.act hg hd (fun a w hf hst => by
    have hr := run_delete (oty := oty) (key := key) ht (hst.get hu.mem)
    exact ⟨_, by simp [execOp, resolve, invoke, builtin, hf.eval hx, hf.eval hy, hr], del_st hst hu⟩) h
/-- a deletion put off -/
theorem wl_deferDelete {b : Nat} {key : List UInt8} {ats : Array TypeId} (hg : gdv ops L g = some true) (hd : Nat.blt d n = true) (hx : evo L x = some (.map (some b))) (hy : evo L y = some (.string ⟨key.toArray⟩))
    (h : ∀ cs, Wl P ops Q M w0 n (⟨.builtin .delete ats oty cs, #[.map (some b), .string ⟨key.toArray⟩]⟩ :: D) rest ((d, undef) :: L) H) :
    Wl P ops Q M w0 n D (⟨some d, .defer { callee := .builtin .delete, args := #[x, y], argTypes := ats }, oty, pos, after, g⟩ :: rest) L H := by
  unfold Wl at h ⊢
  intro a w hf hs
  unfold wpList
  rw [if_pos (by rw [wanted_of hf hg])]
  refine .inl ?_
  unfold Oper.wp
  obtain ⟨cs, hr⟩ : ∃ cs, (execOp a.eval ⟨some d, .defer { callee := .builtin .delete, args := #[x, y], argTypes := ats }, oty, pos, after, g⟩).run P w = .ok (.defer ⟨.builtin .delete ats oty cs, #[.map (some b), .string ⟨key.toArray⟩]⟩) w := ⟨_, by
    simp [execOp, resolve, hf.eval hx, hf.eval hy]
    rfl⟩
  rw [hr]
  refine h cs _ _ ?_ hs
  have := hf.put (dst := some d) (v := undef) (by simpa using hd)
  exact ⟨this.size, by simp [Act.put, hf.defers], this.has⟩
theorem wl_deferDelete0 {b : Nat} {key : List UInt8} {ats : Array TypeId} (hg : gdv ops L g = some true) (hx : evo L x = some (.map (some b))) (hy : evo L y = some (.string ⟨key.toArray⟩))
    (h : ∀ cs, Wl P ops Q M w0 n (⟨.builtin .delete ats oty cs, #[.map (some b), .string ⟨key.toArray⟩]⟩ :: D) rest L H) :
    Wl P ops Q M w0 n D (⟨none, .defer { callee := .builtin .delete, args := #[x, y], argTypes := ats }, oty, pos, after, g⟩ :: rest) L H := by
  unfold Wl at h ⊢
  intro a w hf hs
  unfold wpList
  rw [if_pos (by rw [wanted_of hf hg])]
  refine .inl ?_
  unfold Oper.wp
  obtain ⟨cs, hr⟩ : ∃ cs, (execOp a.eval ⟨none, .defer { callee := .builtin .delete, args := #[x, y], argTypes := ats }, oty, pos, after, g⟩).run P w = .ok (.defer ⟨.builtin .delete ats oty cs, #[.map (some b), .string ⟨key.toArray⟩]⟩) w := ⟨_, by
    simp [execOp, resolve, hf.eval hx, hf.eval hy]
    rfl⟩
  rw [hr]
  refine h cs _ _ ?_ hs
  have := hf.put (dst := none) (v := undef) (by simp)
  exact ⟨this.size, by simp [Act.put, hf.defers], this.has⟩
theorem W.retB0 {fn : Func} {R : Ending → World → Prop} {k : List Kt} {p : Tmp} {v : Value} (hr : fn.results = #[.tmp p]) (hv : look L p = some v) (h : ∀ w, St M w0 w H → R (.returned v) w) : W P (bodyPostB P fn R) M w0 n [] (.inl .ret :: k) L H :=
  W.ret fun a w hf hs => by
    show LeavesB P fn a.tmps R a.defers w
    rw [hf.defers]
    exact ⟨v, by simp [results, hr, hf.has p v hv], h w hs⟩
theorem W.retB1 {fn : Func} {R : Ending → World → Prop} {k : List Kt} {p : Tmp} {v : Value} {kt e : TypeId} {b c : Nat} {tab : Tab} {key : List UInt8} {cs : Array Bool} {H' : List Ent} (hr : fn.results = #[.tmp p]) (hv : look L p = some v) (ht : Mp P t kt e)
    (hu : Upd H b (mobj tab c) (mobj (tdel tab key) c) H') (h : ∀ w, St M w0 w H' → R (.returned v) w) : W P (bodyPostB P fn R) M w0 n [⟨.builtin .delete #[t, kt] oty cs, #[.map (some b), .string ⟨key.toArray⟩]⟩] (.inl .ret :: k) L H :=
  W.ret fun a w hf hs => by
    show LeavesB P fn a.tmps R a.defers w
    rw [hf.defers]
    have hd := run_delete (oty := oty) (key := key) ht (hs.get hu.mem)
    exact ⟨.delete, _, _, _, .tuple #[], _, rfl, by simp [invoke, builtin, hd], v, by simp [results, hr, hf.has p v hv], h _ (del_st hs hu)⟩
theorem ev_makeFunc {f : Fn} {cs : List Operand} {vs : List Value} (hv : evos L cs = some vs) : Ev P M w0 n D L H (.makeFunc f #[] cs.toArray) oty (.func f #[] vs.toArray) := by
  unfold Ev
  intro a w hf _ dst pos after g
  have he := hf.evals hv
  simp [execOp, Instr.makeFunc, he]
end
end Go.PB
