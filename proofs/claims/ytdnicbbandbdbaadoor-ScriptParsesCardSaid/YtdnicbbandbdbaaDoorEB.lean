/- Calls that change blocks of the caller's in place, and rules on what is known of memory. No condition. -/
import Derived.Test.YtdnicbbandbdbaaDoorEC
import Derived.Test.YtdnicbbandbdbaaDoorEP
namespace Go.PB
open Go.RowKit Go.Lib
section
variable {P : Program} {ops : Array Oper} {Q : Exit → Act → World → Prop} {M : List Nat} {w0 w w' : World} {n : Nat} {D : List Deferred} {L : List (Nat × Value)} {H : List Ent} {rest : List Oper}
  {d : Tmp} {oty t t' : TypeId} {pos : String} {after : Array Edge} {g : Option (Nat × Bool)} {x y : Operand}
/-- the blocks that may be written -/
def wrs (H : List Ent) : List Nat := (H.filter (·.wr)).map (·.b)
theorem St.fromHere (h : St M w0 w H) : St (wrs H) w w H :=
  ⟨rfl, rfl, rfl, Nat.le_refl _, fun _ _ _ => rfl, fun p hp => ⟨(h.own p hp).1, fun hw => .inr (List.mem_map.2 ⟨p, List.mem_filter.2 ⟨hp, hw⟩, rfl⟩)⟩, h.apart⟩
theorem St.go {H' : List Ent} (h : St M w0 w H) (h' : St (wrs H) w w' H') : St M w0 w' H' := by
  have hm : ∀ k, k ∈ wrs H → w0.heap.size ≤ k ∨ k ∈ M := fun k hk => by
    obtain ⟨p, hp, rfl⟩ := List.mem_map.1 hk
    obtain ⟨hp, hw⟩ := List.mem_filter.1 hp
    exact (h.own p hp).2 hw
  refine ⟨h'.os.trans h.os, h'.tape.trans h.tape, h'.output.trans h.output, Nat.le_trans h.size h'.size, fun k hk hkM => ?_, fun p hp => ⟨(h'.own p hp).1, fun hw => ?_⟩, h'.apart⟩
  · rw [h'.frame k (Nat.lt_of_lt_of_le hk h.size) fun hk' => ?_]
    · exact h.frame k hk hkM
    · rcases hm k hk' with h1 | h1
      · omega
      · exact hkM h1
  · rcases (h'.own p hp).2 hw with h1 | h1
    · exact .inl (Nat.le_trans h.size h1)
    · exact hm _ h1
/-- a contract: what the caller knows of memory is turned into what it knows behind the call -/
def GivesS {X : Type} (val : X → Value) (φ : X → Prop) (M : List Nat) (w0 : World) (H' : X → List Ent) : Ending → World → Prop := fun e w' => ∃ x, φ x ∧ e = .returned (val x) ∧ St M w0 w' (H' x)
theorem GivesS.of {X : Type} {val : X → Value} {φ : X → Prop} {H' : X → List Ent} {H1 : List Ent} {v : Value} (hst : St M w0 w H) (hs : St (wrs H) w w' H1) (q : X) (hφ : φ q) (hv : v = val q) (hh : SubH (H' q) H1) : GivesS val φ M w0 H' (.returned v) w' :=
  ⟨q, hφ, by rw [hv], (hst.go hs).sub hh⟩
theorem wl_callS {f : FuncId} {xs : List Operand} {vs : List Value} {ats : Array TypeId} {X : Type} {val : X → Value} {φ : X → Prop} {H' : X → List Ent} (hg : gdv ops L g = some true) (hd : Nat.blt d n = true)
    (hh : Has P f) (hv : evos L xs = some vs) (hc : ∀ w, St M w0 w H → Calls P f vs.toArray w (GivesS val φ M w0 H')) (h : ∀ q, φ q → Wl P ops Q M w0 n D rest ((d, val q) :: L) (H' q)) :
    Wl P ops Q M w0 n D (⟨some d, .call { callee := .value (.func f), args := xs.toArray, argTypes := ats }, oty, pos, after, g⟩ :: rest) L H := by
  unfold Wl at h ⊢
  intro a w hf hs
  unfold wpList
  rw [if_pos (by rw [wanted_of hf hg])]
  refine .inl ?_
  unfold Oper.wp
  rw [run_call hf hh (fx := .func f) (cs := []) rfl hv]
  simp only [List.append_nil]
  refine (hc w hs).mono fun e w' hR => ?_
  obtain ⟨q, hq, rfl, hx⟩ := hR
  exact h q hq _ _ (hf.put (dst := some d) (by simpa using hd)) hx
theorem TailUp.app {X : Type} {A T : List Ent} {T' : X → List Ent} : TailUp (A ++ T) T T' (fun x => A ++ T' x) := ⟨A, rfl, fun _ => rfl⟩
/-- a call by its contract: what it has made stands behind what there was -/
theorem wl_callY {f : FuncId} {xs : List Operand} {vs : List Value} {ats : Array TypeId} {X : Type} {val : X → Value} {φ : X → Prop} {news : X → List (Nat × Obj)} (hg : gdv ops L g = some true) (hd : Nat.blt d n = true)
    (hh : Has P f) (hv : evos L xs = some vs) (hc : ∀ w, St M w0 w H → Calls P f vs.toArray w (Gives val φ w (fun _ => []) news)) (h : ∀ x, φ x → Wl P ops Q M w0 n D rest ((d, val x) :: L) (H ++ ents (news x))) :
    Wl P ops Q M w0 n D (⟨some d, .call { callee := .value (.func f), args := xs.toArray, argTypes := ats }, oty, pos, after, g⟩ :: rest) L H :=
  wl_callX hg hd hh hv hc fun x hx => by
    have := h x hx
    unfold Wl at this ⊢
    exact fun a w hf hs => this a w hf (hs.perm List.perm_append_comm)
theorem ev_slice_lAny {e : TypeId} {sz b off m c : Nat} {lo : Operand} {k : IntKind} {i : Int} (ht : Sl P t e) (hs : Sz P e sz) (hx : evo L x = some (.slice (some ⟨b, off, none⟩) m c)) (hlo : evo L lo = some (.int k i)) (hb : 0 ≤ i ∧ i ≤ m) :
    Ev P M w0 n D L H (.slice t x (some lo) none none) oty (.slice (some ⟨b, if c = i.toNat then off else off + i.toNat * sz, none⟩) (m - i.toNat) (c - i.toNat)) := by
  unfold Ev
  intro a w hf _ dst pos after g
  have ht' : P.underlying t = some (.slice e) := ht
  by_cases hne : c = i.toNat
  · simp [execOp, hf.eval hx, hf.eval hlo, Instr.sliceAt, Instr.slice, Instr.sliceBounds, Instr.sliceBound, asIntOf, run_underlying ht', hb.1, hb.2, run_sizeOf hs, add_lit, hne]
  · simp [execOp, hf.eval hx, hf.eval hlo, Instr.sliceAt, Instr.slice, Instr.sliceBounds, Instr.sliceBound, asIntOf, run_underlying ht', hb.1, hb.2, run_sizeOf hs, add_lit, hne]
/-- a call of a closure, which turns what is known of memory -/
theorem wl_callC {f : FuncId} {xs : List Operand} {vs cs : List Value} {fx : Operand} {ats : Array TypeId} {X : Type} {val : X → Value} {φ : X → Prop} {H' : X → List Ent} (hg : gdv ops L g = some true) (hd : Nat.blt d n = true)
    (hh : Has P f) (hfx : evo L fx = some (.func (.func f) #[] cs.toArray)) (hv : evos L xs = some vs) (hc : ∀ w, St M w0 w H → Calls P f (vs ++ cs).toArray w (GivesS val φ M w0 H')) (h : ∀ q, φ q → Wl P ops Q M w0 n D rest ((d, val q) :: L) (H' q)) :
    Wl P ops Q M w0 n D (⟨some d, .call { callee := .value fx, args := xs.toArray, argTypes := ats }, oty, pos, after, g⟩ :: rest) L H := by
  unfold Wl at h ⊢
  intro a w hf hs
  unfold wpList
  rw [if_pos (by rw [wanted_of hf hg])]
  refine .inl ?_
  unfold Oper.wp
  rw [run_call hf hh hfx hv]
  refine (hc w hs).mono fun e w' hR => ?_
  obtain ⟨q, hq, rfl, hx⟩ := hR
  exact h q hq _ _ (hf.put (dst := some d) (by simpa using hd)) hx
end
theorem W.reH {P : Program} {Z : Exit → Act → World → Prop} {M : List Nat} {w0 : World} {n : Nat} {D : List Deferred} {L : List (Nat × Value)} {H H' : List Ent} {k : List Kt} (hH : ∀ w, St M w0 w H → St M w0 w H') (h : W P Z M w0 n D k L H') : W P Z M w0 n D k L H := by
  unfold W at h ⊢
  exact fun a w hf hs => h a w hf (hH w hs)
theorem Wl.reH {P : Program} {ops : Array Oper} {Q : Exit → Act → World → Prop} {M : List Nat} {w0 : World} {n : Nat} {D : List Deferred} {L : List (Nat × Value)} {H H' : List Ent} {l : List Oper} (hH : ∀ w, St M w0 w H → St M w0 w H') (h : Wl P ops Q M w0 n D l L H') : Wl P ops Q M w0 n D l L H := by
  unfold Wl at h ⊢
  exact fun a w hf hs => h a w hf (hH w hs)
/-- a block is read from now on, and not written -/
theorem St.weak {M : List Nat} {w0 w : World} {A R : List Ent} {b : Nat} {wr : Bool} {o : Obj} (h : St M w0 w (A ++ ⟨b, wr, o⟩ :: R)) : St M w0 w (A ++ ⟨b, false, o⟩ :: R) := by
  refine ⟨h.os, h.tape, h.output, h.size, h.frame, fun p hp => ?_, ?_⟩
  · rcases List.mem_append.1 hp with hp | hp
    · exact h.own p (List.mem_append_left _ hp)
    · rcases List.mem_cons.1 hp with rfl | hp
      · exact ⟨(h.own _ (List.mem_append_right _ (List.Mem.head _))).1, fun e => by cases e⟩
      · exact h.own p (List.mem_append_right _ (List.Mem.tail _ hp))
  · have := h.apart
    rw [List.pairwise_append] at this ⊢
    obtain ⟨h1, h2, h3⟩ := this
    rw [List.pairwise_cons] at h2 ⊢
    refine ⟨h1, ⟨fun q hq e => ⟨rfl, (h2.1 q hq e).2⟩, h2.2⟩, fun p hp q hq e => ?_⟩
    rcases List.mem_cons.1 hq with rfl | hq
    · exact ⟨(h3 p hp _ (List.Mem.head _) e).1, rfl⟩
    · exact h3 p hp q (List.Mem.tail _ hq) e
end Go.PB
