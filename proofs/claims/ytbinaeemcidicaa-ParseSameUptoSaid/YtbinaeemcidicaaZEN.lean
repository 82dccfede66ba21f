/- Rules of the walk: closures made, calls that are put off, entries struck from maps. No condition. -/
import Derived.Test.YtbinaeemcidicaaZEQ
import Derived.Defers
import Derived.Test.YtbinaeemcidicaaZL7
import Derived.WalkSmall
namespace Go.PB
open Go.RowKit
section
variable {P : Program}
end
section
variable {P : Program} {ops : Array Oper} {Q : Exit → Act → World → Prop} {M : List Nat} {w0 : World} {n : Nat} {D : List Deferred} {L : List (Nat × Value)} {H : List Ent} {rest : List Oper}
  {d : Tmp} {oty t t' : TypeId} {pos : String} {after : Array Edge} {g : Option (Nat × Bool)} {x y : Operand}
end
end Go.PB
namespace Go.PB
open Go.RowKit Go.Lib
section
variable {P : Program} {ops : Array Oper} {Q : Exit → Act → World → Prop} {M : List Nat} {w0 w w' : World} {n : Nat} {D : List Deferred} {L : List (Nat × Value)} {H : List Ent} {rest : List Oper}
  {d : Tmp} {oty t t' : TypeId} {pos : String} {after : Array Edge} {g : Option (Nat × Bool)} {x y : Operand}
/-- the blocks that may be written -/
def wrs (H : List Ent) : List Nat := (H.filter (·.wr)).map (·.b)
theorem St.fromHere (h : St M w0 w H) : St (wrs H) w w H :=
  ⟨rfl, rfl, rfl, Nat.le_refl _, fun _ _ _ => rfl, fun p hp => ⟨(h.own p hp).1, fun hw => .inr (List.mem_map.2 ⟨p, List.mem_filter.2 ⟨hp, hw⟩, rfl⟩)⟩, h.apart⟩
theorem St.go {H' : List Ent} (h : St M w0 w H) (h' : St (wrs H) w w' H') : St M w0 w' H' := by
  have hm : ∀ k, k ∈ wrs H → w0.heap.size ≤ k ∨ k ∈ M := fun k hk => by
    obtain ⟨p, hp, rfl⟩ := List.mem_map.1 hk
    obtain ⟨hp, hw⟩ := List.mem_filter.1 hp
    exact (h.own p hp).2 hw
  refine ⟨h'.os.trans h.os, h'.tape.trans h.tape, h'.output.trans h.output, Nat.le_trans h.size h'.size, fun k hk hkM => ?_, fun p hp => ⟨(h'.own p hp).1, fun hw => ?_⟩, h'.apart⟩
  · rw [h'.frame k (Nat.lt_of_lt_of_le hk h.size) fun hk' => ?_]
    · exact h.frame k hk hkM
    · rcases hm k hk' with h1 | h1
      · omega
      · exact hkM h1
  · rcases (h'.own p hp).2 hw with h1 | h1
    · exact .inl (Nat.le_trans h.size h1)
    · exact hm _ h1
/-- a contract: what the caller knows of memory is turned into what it knows behind the call -/
def GivesS {X : Type} (val : X → Value) (φ : X → Prop) (M : List Nat) (w0 : World) (H' : X → List Ent) : Ending → World → Prop := fun e w' => ∃ x, φ x ∧ e = .returned (val x) ∧ St M w0 w' (H' x)
theorem GivesS.of {X : Type} {val : X → Value} {φ : X → Prop} {H' : X → List Ent} {H1 : List Ent} {v : Value} (hst : St M w0 w H) (hs : St (wrs H) w w' H1) (q : X) (hφ : φ q) (hv : v = val q) (hh : SubH (H' q) H1) : GivesS val φ M w0 H' (.returned v) w' :=
  ⟨q, hφ, by rw [hv], (hst.go hs).sub hh⟩
theorem wl_callS {f : FuncId} {xs : List Operand} {vs : List Value} {ats : Array TypeId} {X : Type} {val : X → Value} {φ : X → Prop} {H' : X → List Ent} (hg : gdv ops L g = some true) (hd : Nat.blt d n = true)
    (hh : Has P f) (hv : evos L xs = some vs) (hc : ∀ w, St M w0 w H → Calls P f vs.toArray w (GivesS val φ M w0 H')) (h : ∀ q, φ q → Wl P ops Q M w0 n D rest ((d, val q) :: L) (H' q)) :
    Wl P ops Q M w0 n D (⟨some d, .call { callee := .value (.func f), args := xs.toArray, argTypes := ats }, oty, pos, after, g⟩ :: rest) L H := by
  unfold Wl at h ⊢
  intro a w hf hs
  unfold wpList
  rw [if_pos (by rw [wanted_of hf hg])]
  refine .inl ?_
  unfold Oper.wp
  rw [run_call hf hh (fx := .func f) (cs := []) rfl hv]
  simp only [List.append_nil]
  refine (hc w hs).mono fun e w' hR => ?_
  obtain ⟨q, hq, rfl, hx⟩ := hR
  exact h q hq _ _ (hf.put (dst := some d) (by simpa using hd)) hx
theorem TailUp.app {X : Type} {A T : List Ent} {T' : X → List Ent} : TailUp (A ++ T) T T' (fun x => A ++ T' x) := ⟨A, rfl, fun _ => rfl⟩
/-- a call by its contract: what it has made stands behind what there was -/
theorem wl_callY {f : FuncId} {xs : List Operand} {vs : List Value} {ats : Array TypeId} {X : Type} {val : X → Value} {φ : X → Prop} {news : X → List (Nat × Obj)} (hg : gdv ops L g = some true) (hd : Nat.blt d n = true)
    (hh : Has P f) (hv : evos L xs = some vs) (hc : ∀ w, St M w0 w H → Calls P f vs.toArray w (Gives val φ w (fun _ => []) news)) (h : ∀ x, φ x → Wl P ops Q M w0 n D rest ((d, val x) :: L) (H ++ ents (news x))) :
    Wl P ops Q M w0 n D (⟨some d, .call { callee := .value (.func f), args := xs.toArray, argTypes := ats }, oty, pos, after, g⟩ :: rest) L H :=
  wl_callX hg hd hh hv hc fun x hx => by
    have := h x hx
    unfold Wl at this ⊢
    exact fun a w hf hs => this a w hf (hs.perm List.perm_append_comm)
end
theorem W.reH {P : Program} {Z : Exit → Act → World → Prop} {M : List Nat} {w0 : World} {n : Nat} {D : List Deferred} {L : List (Nat × Value)} {H H' : List Ent} {k : List Kt} (hH : ∀ w, St M w0 w H → St M w0 w H') (h : W P Z M w0 n D k L H') : W P Z M w0 n D k L H := by
  unfold W at h ⊢
  exact fun a w hf hs => h a w hf (hH w hs)
end Go.PB
namespace Go.Proofs.Ytbinaeemcidicaa
open Go.PB Go.RowKit
attribute [local irreducible] Go.Calls
instance tkDec : DecidableEq Tk := fun a b => decidable_of_iff (a.k = b.k ∧ a.t = b.t ∧ a.x = b.x ∧ a.at_ = b.at_ ∧ a.ln = b.ln) (by cases a; cases b; simp)
theorem own_get {n sz : Nat} {xs : List Value} {b cap : Nat} {cur : Array Value} (h : ownOk n sz xs (some (b, cap, cur))) {j : Nat} {v : Value} (hv : xs[j]? = some v) : cur[j]? = some v := by
  obtain ⟨_, _, _, h4, _⟩ := h
  rw [← h4, List.getElem?_take] at hv
  split at hv
  · simpa using hv
  · cases hv
theorem own_some {n sz : Nat} {xs : List Value} {o : Ow} (h : ownOk n sz xs o) (hn : 0 < n) : ∃ b cap cur, o = some (b, cap, cur) ∧ n ≤ cap ∧ cur.size = cap * sz ∧ ∀ (j : Nat) (v : Value), xs[j]? = some v → cur[j]? = some v := by
  cases o with
  | none => have := h.1; omega
  | some o =>
    obtain ⟨b, cap, cur⟩ := o
    exact ⟨b, cap, cur, rfl, h.1, h.2.2.1, fun j v hv => own_get h hv⟩
theorem ownH_none (e : TypeId) : ownH e none = [] := rfl
theorem ownH_some (e : TypeId) (b cap : Nat) (cur : Array Value) : ownH e (some (b, cap, cur)) = [⟨b, true, .cells cur e (0, 0)⟩] := rfl
theorem ownV_none (n : Nat) : ownV n none = .slice none 0 0 := rfl
theorem ownV_some (n b cap : Nat) (cur : Array Value) : ownV n (some (b, cap, cur)) = .slice (some ⟨b, 0, none⟩) n cap := rfl
end Go.Proofs.Ytbinaeemcidicaa
namespace Go.PB
open Go.RowKit
section
variable {P : Program} {Z : Exit → Act → World → Prop} {ops : Array Oper} {Q : Exit → Act → World → Prop} {K : List PanicEntry → World → Prop} {M : List Nat} {w0 : World} {n : Nat} {D : List Deferred} {L L' : List (Nat × Value)} {H H' H0 : List Ent} {rest : List Oper} {k : List Kt}
  {d : Tmp} {dst : Option Tmp} {op : Op} {oty t t' : TypeId} {pos : String} {after : Array Edge} {g : Option (Nat × Bool)} {x y z : Operand} {fuel : Nat} {listed : Array Bool}
/-- what may come behind an operation of a region: the rest, or a panic -/
def Qp (D : List Deferred) (K : List PanicEntry → World → Prop) (Q : Exit → Act → World → Prop) : Exit → Act → World → Prop := fun e a w => (e = .normal ∧ Q .normal a w) ∨ ∃ c, e = .panic c ∧ a.defers = D ∧ K c w
theorem put_defers {a : Act} {dst : Option Tmp} {v : Value} : (a.put dst v).defers = a.defers := by cases dst <;> rfl
theorem Qp.put {dst : Option Tmp} {v : Value} {c : List PanicEntry} {a : Act} {w : World} (h : Qp D K Q (.panic c) (a.put dst v) w) : Qp D K Q (.panic c) a w := by
  rcases h with ⟨h, _⟩ | ⟨c', h, hd, hk⟩
  · cases h
  · exact .inr ⟨c', h, by rw [put_defers] at hd; exact hd, hk⟩
/-- a contract: the call panics, and what is known of memory is turned -/
def BadS (c : List PanicEntry) (M : List Nat) (w0 : World) (HB : List Ent) : Ending → World → Prop := fun e w' => e = .panicked c ∧ St M w0 w' HB
theorem BadS.of {c : List PanicEntry} {w w' : World} {HB H1 : List Ent} (hst : St M w0 w H) (hs : St (wrs H) w w' H1) (hh : SubH HB H1) : BadS c M w0 HB (.panicked c) w' := ⟨rfl, (hst.go hs).sub hh⟩
theorem wl_callB {f : FuncId} {fx : Operand} {xs : List Operand} {vs cs : List Value} {ats : Array TypeId} {c : List PanicEntry} {HB : List Ent} (hg : gdv ops L g = some true)
    (hh : Has P f) (hfx : evo L fx = some (.func (.func f) #[] cs.toArray)) (hv : evos L xs = some vs) (hc : ∀ w, St M w0 w H → Calls P f (vs ++ cs).toArray w (BadS c M w0 HB)) (h : ∀ a w, a.defers = D → St M w0 w HB → Q (.panic c) a w) :
    Wl P ops Q M w0 n D (⟨some d, .call { callee := .value fx, args := xs.toArray, argTypes := ats }, oty, pos, after, g⟩ :: rest) L H := by
  unfold Wl
  intro a w hf hs
  unfold wpList
  rw [if_pos (by rw [wanted_of hf hg])]
  refine .inl ?_
  unfold Oper.wp
  rw [run_call hf hh hfx hv]
  refine (hc w hs).mono fun e w' hR => ?_
  obtain ⟨rfl, hx⟩ := hR
  exact h _ _ hf.defers hx
/-- .. a function by its name -/
theorem wl_callB0 {f : FuncId} {xs : List Operand} {vs : List Value} {ats : Array TypeId} {c : List PanicEntry} {HB : List Ent} (hg : gdv ops L g = some true)
    (hh : Has P f) (hv : evos L xs = some vs) (hc : ∀ w, St M w0 w H → Calls P f vs.toArray w (BadS c M w0 HB)) (h : ∀ a w, a.defers = D → St M w0 w HB → Q (.panic c) a w) :
    Wl P ops Q M w0 n D (⟨some d, .call { callee := .value (.func f), args := xs.toArray, argTypes := ats }, oty, pos, after, g⟩ :: rest) L H :=
  wl_callB (cs := []) hg hh rfl hv (by simpa using hc) h
/-- .. where the call's value is thrown away -/
theorem wl_panic {tt : TypeId} {v : Value} (hg : gdv ops L g = some true) (hx : evo L x = some (.iface tt v)) (h : ∀ a w, a.defers = D → St M w0 w H → Q (.panic [{ v := .iface tt v, recovered := false }]) a w) :
    Wl P ops Q M w0 n D (⟨dst, .panic x, oty, pos, after, g⟩ :: rest) L H := by
  unfold Wl
  intro a w hf hs
  unfold wpList
  rw [if_pos (by rw [wanted_of hf hg])]
  refine .inl ?_
  unfold Oper.wp
  have hex : (execOp a.eval ⟨dst, .panic x, oty, pos, after, g⟩).run P w = .halt (.panic (.iface tt v)) w := by simp [execOp, hf.eval hx, run_panic_iface]
  rw [hex]
  exact h _ _ hf.defers hs
theorem ev_makeFunc2 {f : FuncId} {xs ys : List Operand} {vs us : List Value} (hx : evos L xs = some vs) (hy : evos L ys = some us) : Ev P M w0 n D L H (.makeFunc (.func f) xs.toArray ys.toArray) oty (.func (.func f) vs.toArray us.toArray) := by
  unfold Ev
  intro a w hf _ dst pos after g
  have h1 := hf.evals hx
  have h2 := hf.evals hy
  simp only [execOp, List.map_toArray, h1, h2]
  rfl
theorem ev_iface {tt : TypeId} {v : Value} {dd : TypeDesc} (hu : P.underlying tt = some dd) (hi : ∀ ms, dd ≠ .interface ms) (hx : evo L x = some v) : Ev P M w0 n D L H (.makeInterface tt x) oty (.iface tt v) := by
  unfold Ev
  intro a w hf _ dst pos after g
  have hr : (Instr.makeInterface tt v).run P w = .ok (.iface tt v) w := by
    cases dd <;> first | (exact absurd rfl (hi _)) | simp [Instr.makeInterface, run_underlying hu]
  simp [execOp, hf.eval hx, hr]
end
end Go.PB
namespace Go.PB
open Go.RowKit
section
variable {P : Program} {Z : Exit → Act → World → Prop} {ops : Array Oper} {Q : Exit → Act → World → Prop} {M : List Nat} {w0 : World} {n : Nat} {D : List Deferred} {L L' : List (Nat × Value)} {H H' : List Ent} {rest : List Oper} {k : List Kt}
  {d : Tmp} {dst : Option Tmp} {oty : TypeId} {pos : String} {after : Array Edge} {g : Option (Nat × Bool)}
/-- a function value: what it is bound to, what it caught -/
abbrev fnV (f : FuncId) (bs cs : List Value) : Value := .func (.func f) bs.toArray cs.toArray
theorem run_callF {a : Act} {w : World} {f : FuncId} {xs : List Operand} {bs vs cs : List Value} {fx : Operand} {ats : Array TypeId} (hf : Fz n L D a) (hh : Has P f) (hfx : evo L fx = some (fnV f bs cs))
    (hv : evos L xs = some vs) : (execOp a.eval ⟨dst, .call { callee := .value fx, args := xs.toArray, argTypes := ats }, oty, pos, after, g⟩).run P w = .ok (.enter f (bs ++ vs ++ cs).toArray) w := by
  obtain ⟨fn, c, h1, h2, h3⟩ := hh
  have he := hf.evals hv
  simp only [execOp, resolve, hf.eval hfx, Deferred.ofValue, List.map_toArray, he]
  simp [invoke, run_callFunc h1 h2 h3]
theorem Wq.callF {f : FuncId} {xs : List Operand} {bs vs cs : List Value} {fx : Operand} {ats : Array TypeId} {v : Value} (hg : gdv ops L g = some true) (hd : Nat.blt d n = true)
    (hh : Has P f) (hfx : evo L fx = some (fnV f bs cs)) (hv : evos L xs = some vs) (hc : ∀ w, St M w0 w H → Calls P f (bs ++ vs ++ cs).toArray w (Give v w)) (h : Wq P ops Q M w0 n D rest ((d, v) :: L) H) :
    Wq P ops Q M w0 n D (⟨some d, .call { callee := .value fx, args := xs.toArray, argTypes := ats }, oty, pos, after, g⟩ :: rest) L H := by
  unfold Wq at h ⊢
  intro a hf
  unfold wpQuiet
  rw [if_pos (by rw [wanted_of hf hg])]
  refine ⟨v, fun w hs => ?_, h _ (hf.put (dst := some d) (by simpa using hd))⟩
  unfold Oper.quietAt
  rw [run_callF hf hh hfx hv]
  exact ⟨rfl, (hc w hs).mono fun e w' hR => ⟨hR.1, hs.ext hR.2⟩⟩
theorem wl_callG {f : FuncId} {xs : List Operand} {bs vs cs : List Value} {fx : Operand} {ats : Array TypeId} {X : Type} {val : X → Value} {φ : X → Prop} {H' : X → List Ent} (hg : gdv ops L g = some true) (hd : Nat.blt d n = true)
    (hh : Has P f) (hfx : evo L fx = some (fnV f bs cs)) (hv : evos L xs = some vs) (hc : ∀ w, St M w0 w H → Calls P f (bs ++ vs ++ cs).toArray w (GivesS val φ M w0 H')) (h : ∀ q, φ q → Wl P ops Q M w0 n D rest ((d, val q) :: L) (H' q)) :
    Wl P ops Q M w0 n D (⟨some d, .call { callee := .value fx, args := xs.toArray, argTypes := ats }, oty, pos, after, g⟩ :: rest) L H := by
  unfold Wl at h ⊢
  intro a w hf hs
  unfold wpList
  rw [if_pos (by rw [wanted_of hf hg])]
  refine .inl ?_
  unfold Oper.wp
  rw [run_callF hf hh hfx hv]
  refine (hc w hs).mono fun e w' hR => ?_
  obtain ⟨q, hq, rfl, hx⟩ := hR
  exact h q hq _ _ (hf.put (dst := some d) (by simpa using hd)) hx
theorem wl_callGB {f : FuncId} {fx : Operand} {xs : List Operand} {bs vs cs : List Value} {ats : Array TypeId} {c : List PanicEntry} {HB : List Ent} (hg : gdv ops L g = some true)
    (hh : Has P f) (hfx : evo L fx = some (fnV f bs cs)) (hv : evos L xs = some vs) (hc : ∀ w, St M w0 w H → Calls P f (bs ++ vs ++ cs).toArray w (BadS c M w0 HB)) (h : ∀ a w, a.defers = D → St M w0 w HB → Q (.panic c) a w) :
    Wl P ops Q M w0 n D (⟨some d, .call { callee := .value fx, args := xs.toArray, argTypes := ats }, oty, pos, after, g⟩ :: rest) L H := by
  unfold Wl
  intro a w hf hs
  unfold wpList
  rw [if_pos (by rw [wanted_of hf hg])]
  refine .inl ?_
  unfold Oper.wp
  rw [run_callF hf hh hfx hv]
  refine (hc w hs).mono fun e w' hR => ?_
  obtain ⟨rfl, hx⟩ := hR
  exact h _ _ hf.defers hx
theorem bad_end {fn : Func} {R : Ending → World → Prop} {c : List PanicEntry} (h : ∀ w, St M w0 w H → R (.panicked c) w) : ∀ (a : Act) (w : World), a.defers = [] → St M w0 w H → kpost P (bodyPost P fn R) k (.panic c) a w :=
  fun _ w hd hs => kpost_panic (show bodyPost P fn R (.panic c) _ w from ⟨hd, h w hs⟩) k
end
end Go.PB
