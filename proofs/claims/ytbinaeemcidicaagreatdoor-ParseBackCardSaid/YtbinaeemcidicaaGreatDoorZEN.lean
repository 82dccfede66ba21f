/- Rules of the walk: closures made, calls that are put off, entries struck from maps. No condition. -/
import Derived.Test.YtbinaeemcidicaaGreatDoorZEQ
import Derived.Defers
import Derived.Test.YtbinaeemcidicaaGreatDoorZL7
import Derived.WalkSmall
set_option maxHeartbeats 16000000
namespace Go.PB
open Go.RowKit
section
variable {P : Program}
end
section
variable {P : Program} {ops : Array Oper} {Q : Exit → Act → World → Prop} {M : List Nat} {w0 : World} {n : Nat} {D : List Deferred} {L : List (Nat × Value)} {H : List Ent} {rest : List Oper}
 {d : Tmp} {oty t t' : TypeId} {pos : String} {after : Array Edge} {g : Option (Nat × Bool)} {x y : Operand}
end
end Go.PB
namespace Go.PB
open Go.RowKit Go.Lib
section
variable {P : Program} {ops : Array Oper} {Q : Exit → Act → World → Prop} {M : List Nat} {w0 w w' : World} {n : Nat} {D : List Deferred} {L : List (Nat × Value)} {H : List Ent} {rest : List Oper}
 {d : Tmp} {oty t t' : TypeId} {pos : String} {after : Array Edge} {g : Option (Nat × Bool)} {x y : Operand}
def wrs (H : List Ent) : List Nat := (H.filter (·.wr)).map (·.b)
theorem St.fromHere (h : St M w0 w H) : St (wrs H) w w H :=
 ⟨rfl, rfl, rfl, Nat.le_refl _, fun _ _ _ => rfl, fun p hp => ⟨(h.own p hp).1, fun hw => .inr (List.mem_map.2 ⟨p, List.mem_filter.2 ⟨hp, hw⟩, rfl⟩)⟩, h.apart⟩
theorem St.go {H' : List Ent} (h : St M w0 w H) (h' : St (wrs H) w w' H') : St M w0 w' H' := by
 have hm : ∀ k, k ∈ wrs H → w0.heap.size ≤ k ∨ k ∈ M := fun k hk => by
  obtain ⟨p, hp, rfl⟩ := List.mem_map.1 hk
  obtain ⟨hp, hw⟩ := List.mem_filter.1 hp
  exact (h.own p hp).2 hw
 refine ⟨h'.os.trans h.os, h'.tape.trans h.tape, h'.output.trans h.output, Nat.le_trans h.size h'.size, fun k hk hkM => ?_, fun p hp => ⟨(h'.own p hp).1, fun hw => ?_⟩, h'.apart⟩
 ·rw [h'.frame k (Nat.lt_of_lt_of_le hk h.size) fun hk' => ?_]
  ·exact h.frame k hk hkM
  ·rcases hm k hk' with h1 | h1
   ·omega
   ·exact hkM h1
 ·rcases (h'.own p hp).2 hw with h1 | h1
  ·exact .inl (Nat.le_trans h.size h1)
  ·exact hm _ h1
def GivesS {X : Type} (val : X → Value) (φ : X → Prop) (M : List Nat) (w0 : World) (H' : X → List Ent) : Ending → World → Prop := fun e w' => ∃ x, φ x ∧ e = .returned (val x) ∧ St M w0 w' (H' x)
theorem GivesS.of {X : Type} {val : X → Value} {φ : X → Prop} {H' : X → List Ent} {H1 : List Ent} {v : Value} (hst : St M w0 w H) (hs : St (wrs H) w w' H1) (q : X) (hφ : φ q) (hv : v = val q) (hh : SubH (H' q) H1) : GivesS val φ M w0 H' (.returned v) w' :=
 ⟨q, hφ, by rw [hv], (hst.go hs).sub hh⟩
theorem wl_callS {f : FuncId} {xs : List Operand} {vs : List Value} {ats : Array TypeId} {X : Type} {val : X → Value} {φ : X → Prop} {H' : X → List Ent} (hg : gdv ops L g = some true) (hd : Nat.blt d n = true)
  (hh : Has P f) (hv : evos L xs = some vs) (hc : ∀ w, St M w0 w H → Calls P f vs.toArray w (GivesS val φ M w0 H')) (h : ∀ q, φ q → Wl P ops Q M w0 n D rest ((d, val q) :: L) (H' q)) :
  Wl P ops Q M w0 n D (⟨some d, .call { callee := .value (.func f), args := xs.toArray, argTypes := ats }, oty, pos, after, g⟩ :: rest) L H := by
 unfold Wl at h ⊢
 intro a w hf hs
 unfold wpList
 rw [if_pos Zck]
 refine .inl ?_
 unfold Oper.wp
 rw [run_call hf hh (fx := .func f) (cs := []) rfl hv]
 simp only [List.append_nil]
 refine (hc w hs).mono fun e w' hR => ?_
 obtain ⟨q, hq, rfl, hx⟩ := hR
 exact h q hq _ _ (hf.put (dst := some d) Zct) hx
theorem TailUp.app {X : Type} {A T : List Ent} {T' : X → List Ent} : TailUp (A ++ T) T T' (fun x => A ++ T' x) := ⟨A, rfl, fun _ => rfl⟩
theorem wl_callY {f : FuncId} {xs : List Operand} {vs : List Value} {ats : Array TypeId} {X : Type} {val : X → Value} {φ : X → Prop} {news : X → List (Nat × Obj)} (hg : gdv ops L g = some true) (hd : Nat.blt d n = true)
  (hh : Has P f) (hv : evos L xs = some vs) (hc : ∀ w, St M w0 w H → Calls P f vs.toArray w (Gives val φ w (fun _ => []) news)) (h : ∀ x, φ x → Wl P ops Q M w0 n D rest ((d, val x) :: L) (H ++ ents (news x))) :
  Wl P ops Q M w0 n D (⟨some d, .call { callee := .value (.func f), args := xs.toArray, argTypes := ats }, oty, pos, after, g⟩ :: rest) L H :=
 wl_callX hg hd hh hv hc fun x hx => by
  have := h x hx
  unfold Wl at this ⊢
  exact fun a w hf hs => this a w hf (hs.perm List.perm_append_comm)
end
end Go.PB
namespace Go.Proofs.YtbinaeemcidicaaGreatDoor
open Go.PB Go.RowKit
attribute [local irreducible] Go.Calls
instance tkDec : DecidableEq Tk := fun a b => decidable_of_iff (a.k = b.k ∧ a.t = b.t ∧ a.x = b.x ∧ a.at_ = b.at_ ∧ a.ln = b.ln) (by cases a; cases b; simp)
theorem own_get {n sz : Nat} {xs : List Value} {b cap : Nat} {cur : Array Value} (h : ownOk n sz xs (some (b, cap, cur))) {j : Nat} {v : Value} (hv : xs[j]? = some v) : cur[j]? = some v := by
 obtain ⟨_, _, _, h4, _⟩ := h
 rw [← h4, List.getElem?_take] at hv
 split at hv
 ·simpa using hv
 ·cases hv
theorem own_some {n sz : Nat} {xs : List Value} {o : Ow} (h : ownOk n sz xs o) (hn : 0 < n) : ∃ b cap cur, o = some (b, cap, cur) ∧ n ≤ cap ∧ cur.size = cap * sz ∧ ∀ (j : Nat) (v : Value), xs[j]? = some v → cur[j]? = some v := by
 cases o with
 | none => have := h.1; omega
 | some o =>
  obtain ⟨b, cap, cur⟩ := o
  exact ⟨b, cap, cur, rfl, h.1, h.2.2.1, fun j v hv => own_get h hv⟩
def TokAt (w : World) (v : Value) (l : List Tk) : Prop :=
 (∃ p c, v = .slice p 0 c ∧ l = []) ∨ ∃ b off c arr et fr, v = .slice (some ⟨b, off, none⟩) l.length c ∧ w.heap[b]? = some (.cells arr et fr) ∧ ∀ j u, (tksC l)[j]? = some u → arr[off + j]? = some u
theorem TokAt.own {M : List Nat} {w0 w : World} {H : List Ent} {l : List Tk} {o : Ow} (hs : St M w0 w H) (ho : ownOk l.length 5 (tksC l) o) (hm : ∀ p ∈ ownH 67 o, p ∈ H) : TokAt w (ownV l.length o) l := by
 cases o with
 | none =>
  have : l = [] := List.eq_nil_of_length_eq_zero ho.1
  exact .inl ⟨none, 0, by rw [this]; rfl, this⟩
 | some o =>
  obtain ⟨b, cap, cur⟩ := o
  refine .inr ⟨b, 0, cap, cur, 67, (0, 0), rfl, hs.get (hm _ (List.Mem.head _)), fun j u h => ?_⟩
  rw [Nat.zero_add]
  exact own_get ho h
theorem ownH_none (e : TypeId) : ownH e none = [] := rfl
theorem ownH_some (e : TypeId) (b cap : Nat) (cur : Array Value) : ownH e (some (b, cap, cur)) = [⟨b, true, .cells cur e (0, 0)⟩] := rfl
theorem ownV_none (n : Nat) : ownV n none = .slice none 0 0 := rfl
theorem ownV_some (n b cap : Nat) (cur : Array Value) : ownV n (some (b, cap, cur)) = .slice (some ⟨b, 0, none⟩) n cap := rfl
end Go.Proofs.YtbinaeemcidicaaGreatDoor
namespace Go.PB
open Go.RowKit
section
variable {P : Program} {Z : Exit → Act → World → Prop} {ops : Array Oper} {Q : Exit → Act → World → Prop} {K : List PanicEntry → World → Prop} {M : List Nat} {w0 : World} {n : Nat} {D : List Deferred} {L L' : List (Nat × Value)} {H H' H0 : List Ent} {rest : List Oper} {k : List Kt}
 {d : Tmp} {dst : Option Tmp} {op : Op} {oty t t' : TypeId} {pos : String} {after : Array Edge} {g : Option (Nat × Bool)} {x y z : Operand} {fuel : Nat} {listed : Array Bool}
def Qp (D : List Deferred) (K : List PanicEntry → World → Prop) (Q : Exit → Act → World → Prop) : Exit → Act → World → Prop := fun e a w => (e = .normal ∧ Q .normal a w) ∨ ∃ c, e = .panic c ∧ a.defers = D ∧ K c w
theorem put_defers {a : Act} {dst : Option Tmp} {v : Value} : (a.put dst v).defers = a.defers := by cases dst <;> rfl
theorem Qp.put {dst : Option Tmp} {v : Value} {c : List PanicEntry} {a : Act} {w : World} (h : Qp D K Q (.panic c) (a.put dst v) w) : Qp D K Q (.panic c) a w := by
 rcases h with ⟨h, _⟩ | ⟨c', h, hd, hk⟩
 ·cases h
 ·exact .inr ⟨c', h, by rw [put_defers] at hd; exact hd, hk⟩
def Wr (P : Program) (ops : Array Oper) (Q : Exit → Act → World → Prop) (K : List PanicEntry → World → Prop) (H0 : List Ent) (M : List Nat) (w0 : World) (n : Nat) (D : List Deferred) (fuel : Nat) (listed : Array Bool) (_ : Nat) (L : List (Nat × Value)) (H : List Ent) : Prop :=
 ∀ a w, Fz n L D a → St M w0 w H → wpAnyH P .any ops (Qp D K Q) (fun w => St M w0 w H0) fuel listed a w
def Qr (P : Program) (ops : Array Oper) (Q : Exit → Act → World → Prop) (K : List PanicEntry → World → Prop) (D : List Deferred) (H0 : List Ent) (M : List Nat) (w0 : World) (fuel : Nat) (listed : Array Bool) : Exit → Act → World → Prop :=
 fun e a w => (e = .normal ∧ St M w0 w H0 ∧ wpAnyH P .any ops (Qp D K Q) (fun w => St M w0 w H0) fuel listed a w) ∨ ∃ c, e = .panic c ∧ a.defers = D ∧ K c w
theorem Wr.done {i : Nat} (hr : (Region.ready .any ops listed).isEmpty = true) (h : W P Z M w0 n D k L H) : Wr P ops (kpost P Z k) K H0 M w0 n D fuel listed i L H := by
 unfold W at h
 exact fun a w hf hs => wpAnyH_done (List.isEmpty_iff.1 hr) (.inl ⟨rfl, h a w hf hs⟩) fuel
theorem Wr.take {v : Value} {i : Nat} (hr : (Region.ready .any ops listed).contains i = true) (hi : ops[i]? = some ⟨some d, op, oty, pos, after, g⟩) (hs : Region.noSelect ops = true) (hf : Region.free .any ops listed i = true)
  (hg : gdv ops L g = some true) (hd : Nat.blt d n = true) (he : Ev P M w0 n D L H0 op oty v) (hH : SubH H0 H)
  (h : Wr P ops Q K H0 M w0 n D fuel (listed.setIfInBounds i true) (i + 1) ((d, v) :: L) H) : Wr P ops Q K H0 M w0 n D (fuel + 1) listed i L H := by
 unfold Ev at he
 exact fun a w hfz hst => wpAnyH_take hi hs hf hr (fun c a w hq => Qp.put hq) (.inl ⟨wanted_of hfz hg, fun w' hw' => he a w' hfz hw' _ _ _ _⟩) (hst.sub hH)
  (h _ w (hfz.put (dst := some d) Zct) hst)
theorem Wr.skip {i : Nat} (hr : (Region.ready .any ops listed).contains i = true) (hi : ops[i]? = some ⟨some d, op, oty, pos, after, g⟩) (hs : Region.noSelect ops = true) (hf : Region.free .any ops listed i = true)
  (hg : gdv ops L g = some false) (hd : Nat.blt d n = true) (hH : SubH H0 H)
  (h : Wr P ops Q K H0 M w0 n D fuel (listed.setIfInBounds i true) (i + 1) ((d, undef) :: L) H) : Wr P ops Q K H0 M w0 n D (fuel + 1) listed i L H :=
 fun a w hfz hst => wpAnyH_take (v := undef) hi hs hf hr (fun c a w hq => Qp.put hq) (.inr ⟨wanted_of hfz hg, rfl⟩) (hst.sub hH)
  (h _ w (hfz.put (dst := some d) Zct) hst)
theorem Wr.next {i : Nat} (h : Wr P ops Q K H0 M w0 n D fuel listed (i + 1) L H) : Wr P ops Q K H0 M w0 n D fuel listed i L H := h
theorem Wr.not {i : Nat} (_ : (Region.ready .any ops listed).contains i = false) (h : Wr P ops Q K H0 M w0 n D fuel listed (i + 1) L H) : Wr P ops Q K H0 M w0 n D fuel listed i L H := h
theorem Wr.all {l : List Oper} {j : Nat} (_ : Nat.ble l.length j = true) (hne : (Region.ready .any l.toArray listed).isEmpty = false)
  (h : AllO (fun i o => (Region.ready .any l.toArray listed).contains i = false ∨ Wl P l.toArray (Qr P l.toArray Q K D H0 M w0 fuel (listed.setIfInBounds i true)) M w0 n D [o] L H) 0 l) : Wr P l.toArray Q K H0 M w0 n D (fuel + 1) listed j L H := by
 intro a w hf hs
 refine wpAnyH_all rfl Zfk fun i hi => ?_
 have hex : ∃ o, l[i]? = some o := by
  simp only [Region.ready, List.mem_filter, List.mem_range, List.size_toArray] at hi
  exact ⟨_, List.getElem?_eq_getElem hi.1⟩
 obtain ⟨o, ho'⟩ := hex
 have ho : l.toArray[i]? = some o := by simpa using ho'
 rcases h.get i o ho' with hw | hw
 ·rw [Nat.zero_add] at hw
  rw [show (Region.ready .any l.toArray listed).contains i = true by simpa using hi] at hw
  cases hw
 rw [Nat.zero_add] at hw
 unfold Wl at hw
 have hw := hw a w hf hs
 unfold wpOp
 simp only [ho]
 unfold wpList at hw
 have hK : ∀ a' w', wpList P l.toArray (Qr P l.toArray Q K D H0 M w0 fuel (listed.setIfInBounds i true)) [] a' w' → St M w0 w' H0 ∧ wpAnyH P .any l.toArray (Qp D K Q) (fun w => St M w0 w H0) fuel (listed.setIfInBounds i true) a' w' := fun a' w' h => by
  rcases (show Qr P l.toArray Q K D H0 M w0 fuel (listed.setIfInBounds i true) .normal a' w' from h) with ⟨_, h1, h2⟩ | ⟨c, e, _⟩
  ·exact ⟨h1, h2⟩
  ·cases e
 have hlet : ∀ {R : Prop}, LetsOut (Qr P l.toArray Q K D H0 M w0 fuel (listed.setIfInBounds i true)) → R := by
  rintro R ⟨a, w, h⟩
  rcases h with ⟨h, _⟩ | ⟨c, h, _⟩ <;> cases h
 split
 ·rename_i hwt
  rw [if_pos hwt] at hw
  rcases hw with hw | hw
  ·refine .inl (Oper.wp_mono (fun a' w' hk => ?_) (?_ : o.wp P a w (wpList P l.toArray (Qr P l.toArray Q K D H0 M w0 fuel (listed.setIfInBounds i true)) []) (Qp D K Q)))
   ·exact hK _ _ hk
   ·refine upon_monoQ (fun c a w hq => ?_) (fun h => hlet h) hw
    rcases hq with ⟨h, _⟩ | h
    ·cases h
    ·exact .inr h
  ·exact hlet hw.2
 ·rename_i hwt
  rw [if_neg hwt] at hw
  exact hK _ _ hw
theorem Wr.split {p : Prop} [Decidable p] {i d : Nat} (hr : (Region.ready .any ops listed).contains i = true) (hi : ops[i]? = some ⟨dst, op, oty, pos, after, g⟩) (hd : gslot ops g = some d) (hv : look L d = some (.bool (decide p)))
  (ht : p → Wr P ops Q K H0 M w0 n D fuel listed i ((d, .bool true) :: L) H)
  (hf : ¬p → Wr P ops Q K H0 M w0 n D fuel listed i ((d, .bool false) :: L) H) : Wr P ops Q K H0 M w0 n D fuel listed i L H := by
 have _ := hd
 have _ := hi
 have _ := hr
 intro a w hfz hs
 by_cases hp : p
 ·exact ht hp a w (hfz.sub' Zd5) hs
 ·exact hf hp a w (hfz.sub' Zd5) hs
theorem Wr.splitB {b : Bool} {i d : Nat} (hr : (Region.ready .any ops listed).contains i = true) (hi : ops[i]? = some ⟨dst, op, oty, pos, after, g⟩) (hd : gslot ops g = some d) (hv : look L d = some (.bool b))
  (ht : b = true → Wr P ops Q K H0 M w0 n D fuel listed i ((d, .bool true) :: L) H)
  (hf : b = false → Wr P ops Q K H0 M w0 n D fuel listed i ((d, .bool false) :: L) H) : Wr P ops Q K H0 M w0 n D fuel listed i L H := by
 have _ := hd
 have _ := hi
 have _ := hr
 intro a w hfz hs
 cases hb : b with
 | true => exact ht hb a w (hfz.sub' Zew) hs
 | false => exact hf hb a w (hfz.sub' Zew) hs
def BadS (c : List PanicEntry) (M : List Nat) (w0 : World) (HB : List Ent) : Ending → World → Prop := fun e w' => e = .panicked c ∧ St M w0 w' HB
theorem BadS.of {c : List PanicEntry} {w w' : World} {HB H1 : List Ent} (hst : St M w0 w H) (hs : St (wrs H) w w' H1) (hh : SubH HB H1) : BadS c M w0 HB (.panicked c) w' := ⟨rfl, (hst.go hs).sub hh⟩
theorem wl_callB {f : FuncId} {fx : Operand} {xs : List Operand} {vs cs : List Value} {ats : Array TypeId} {c : List PanicEntry} {HB : List Ent} (hg : gdv ops L g = some true)
  (hh : Has P f) (hfx : evo L fx = some (.func (.func f) #[] cs.toArray)) (hv : evos L xs = some vs) (hc : ∀ w, St M w0 w H → Calls P f (vs ++ cs).toArray w (BadS c M w0 HB)) (h : ∀ a w, a.defers = D → St M w0 w HB → Q (.panic c) a w) :
  Wl P ops Q M w0 n D (⟨some d, .call { callee := .value fx, args := xs.toArray, argTypes := ats }, oty, pos, after, g⟩ :: rest) L H := by
 unfold Wl
 intro a w hf hs
 unfold wpList
 rw [if_pos Zck]
 refine .inl ?_
 unfold Oper.wp
 rw [run_call hf hh hfx hv]
 refine (hc w hs).mono fun e w' hR => ?_
 obtain ⟨rfl, hx⟩ := hR
 exact h _ _ hf.defers hx
theorem wl_callB0 {f : FuncId} {xs : List Operand} {vs : List Value} {ats : Array TypeId} {c : List PanicEntry} {HB : List Ent} (hg : gdv ops L g = some true)
  (hh : Has P f) (hv : evos L xs = some vs) (hc : ∀ w, St M w0 w H → Calls P f vs.toArray w (BadS c M w0 HB)) (h : ∀ a w, a.defers = D → St M w0 w HB → Q (.panic c) a w) :
  Wl P ops Q M w0 n D (⟨some d, .call { callee := .value (.func f), args := xs.toArray, argTypes := ats }, oty, pos, after, g⟩ :: rest) L H :=
 wl_callB (cs := []) hg hh rfl hv (by simpa using hc) h
theorem wl_panic {tt : TypeId} {v : Value} (hg : gdv ops L g = some true) (hx : evo L x = some (.iface tt v)) (h : ∀ a w, a.defers = D → St M w0 w H → Q (.panic [{ v := .iface tt v, recovered := false }]) a w) :
  Wl P ops Q M w0 n D (⟨dst, .panic x, oty, pos, after, g⟩ :: rest) L H := by
 unfold Wl
 intro a w hf hs
 unfold wpList
 rw [if_pos Zck]
 refine .inl ?_
 unfold Oper.wp
 have hex : (execOp a.eval ⟨dst, .panic x, oty, pos, after, g⟩).run P w = .halt (.panic (.iface tt v)) w := by simp [execOp, hf.eval hx, run_panic_iface]
 rw [hex]
 exact h _ _ hf.defers hs
theorem ev_makeFunc2 {f : FuncId} {xs ys : List Operand} {vs us : List Value} (hx : evos L xs = some vs) (hy : evos L ys = some us) : Ev P M w0 n D L H (.makeFunc (.func f) xs.toArray ys.toArray) oty (.func (.func f) vs.toArray us.toArray) := by
 unfold Ev
 intro a w hf _ dst pos after g
 have h1 := hf.evals hx
 have h2 := hf.evals hy
 simp only [execOp, List.map_toArray, h1, h2]
 rfl
theorem ev_iface {tt : TypeId} {v : Value} {dd : TypeDesc} (hu : P.underlying tt = some dd) (hi : ∀ ms, dd ≠ .interface ms) (hx : evo L x = some v) : Ev P M w0 n D L H (.makeInterface tt x) oty (.iface tt v) := by
 unfold Ev
 intro a w hf _ dst pos after g
 have hr : (Instr.makeInterface tt v).run P w = .ok (.iface tt v) w := by
  cases dd <;> first | (exact absurd rfl (hi _)) | simp [Instr.makeInterface, run_underlying hu]
 simp [execOp, hf.eval hx, hr]
end
end Go.PB
namespace Go.PB
open Go.RowKit
section
variable {P : Program} {Z : Exit → Act → World → Prop} {ops : Array Oper} {Q : Exit → Act → World → Prop} {M : List Nat} {w0 : World} {n : Nat} {D : List Deferred} {L L' : List (Nat × Value)} {H H' : List Ent} {rest : List Oper} {k : List Kt}
 {d : Tmp} {dst : Option Tmp} {oty : TypeId} {pos : String} {after : Array Edge} {g : Option (Nat × Bool)}
abbrev fnV (f : FuncId) (bs cs : List Value) : Value := .func (.func f) bs.toArray cs.toArray
theorem run_callF {a : Act} {w : World} {f : FuncId} {xs : List Operand} {bs vs cs : List Value} {fx : Operand} {ats : Array TypeId} (hf : Fz n L D a) (hh : Has P f) (hfx : evo L fx = some (fnV f bs cs))
  (hv : evos L xs = some vs) : (execOp a.eval ⟨dst, .call { callee := .value fx, args := xs.toArray, argTypes := ats }, oty, pos, after, g⟩).run P w = .ok (.enter f (bs ++ vs ++ cs).toArray) w := by
 obtain ⟨fn, c, h1, h2, h3⟩ := hh
 have he := hf.evals hv
 simp only [execOp, resolve, hf.eval hfx, Deferred.ofValue, List.map_toArray, he]
 simp [invoke, run_callFunc h1 h2 h3]
theorem Wq.callF {f : FuncId} {xs : List Operand} {bs vs cs : List Value} {fx : Operand} {ats : Array TypeId} {v : Value} (hg : gdv ops L g = some true) (hd : Nat.blt d n = true)
  (hh : Has P f) (hfx : evo L fx = some (fnV f bs cs)) (hv : evos L xs = some vs) (hc : ∀ w, St M w0 w H → Calls P f (bs ++ vs ++ cs).toArray w (Give v w)) (h : Wq P ops Q M w0 n D rest ((d, v) :: L) H) :
  Wq P ops Q M w0 n D (⟨some d, .call { callee := .value fx, args := xs.toArray, argTypes := ats }, oty, pos, after, g⟩ :: rest) L H := by
 unfold Wq at h ⊢
 intro a hf
 unfold wpQuiet
 rw [if_pos Zck]
 refine ⟨v, fun w hs => ?_, h _ (hf.put (dst := some d) Zct)⟩
 unfold Oper.quietAt
 rw [run_callF hf hh hfx hv]
 exact ⟨rfl, (hc w hs).mono fun e w' hR => ⟨hR.1, hs.ext hR.2⟩⟩
theorem wl_callG {f : FuncId} {xs : List Operand} {bs vs cs : List Value} {fx : Operand} {ats : Array TypeId} {X : Type} {val : X → Value} {φ : X → Prop} {H' : X → List Ent} (hg : gdv ops L g = some true) (hd : Nat.blt d n = true)
  (hh : Has P f) (hfx : evo L fx = some (fnV f bs cs)) (hv : evos L xs = some vs) (hc : ∀ w, St M w0 w H → Calls P f (bs ++ vs ++ cs).toArray w (GivesS val φ M w0 H')) (h : ∀ q, φ q → Wl P ops Q M w0 n D rest ((d, val q) :: L) (H' q)) :
  Wl P ops Q M w0 n D (⟨some d, .call { callee := .value fx, args := xs.toArray, argTypes := ats }, oty, pos, after, g⟩ :: rest) L H := by
 unfold Wl at h ⊢
 intro a w hf hs
 unfold wpList
 rw [if_pos Zck]
 refine .inl ?_
 unfold Oper.wp
 rw [run_callF hf hh hfx hv]
 refine (hc w hs).mono fun e w' hR => ?_
 obtain ⟨q, hq, rfl, hx⟩ := hR
 exact h q hq _ _ (hf.put (dst := some d) Zct) hx
theorem wl_callGB {f : FuncId} {fx : Operand} {xs : List Operand} {bs vs cs : List Value} {ats : Array TypeId} {c : List PanicEntry} {HB : List Ent} (hg : gdv ops L g = some true)
  (hh : Has P f) (hfx : evo L fx = some (fnV f bs cs)) (hv : evos L xs = some vs) (hc : ∀ w, St M w0 w H → Calls P f (bs ++ vs ++ cs).toArray w (BadS c M w0 HB)) (h : ∀ a w, a.defers = D → St M w0 w HB → Q (.panic c) a w) :
  Wl P ops Q M w0 n D (⟨some d, .call { callee := .value fx, args := xs.toArray, argTypes := ats }, oty, pos, after, g⟩ :: rest) L H := by
 unfold Wl
 intro a w hf hs
 unfold wpList
 rw [if_pos Zck]
 refine .inl ?_
 unfold Oper.wp
 rw [run_callF hf hh hfx hv]
 refine (hc w hs).mono fun e w' hR => ?_
 obtain ⟨rfl, hx⟩ := hR
 exact h _ _ hf.defers hx
theorem bad_end {fn : Func} {R : Ending → World → Prop} {c : List PanicEntry} (h : ∀ w, St M w0 w H → R (.panicked c) w) : ∀ (a : Act) (w : World), a.defers = [] → St M w0 w H → kpost P (bodyPost P fn R) k (.panic c) a w :=
 fun _ w hd hs => kpost_panic (show bodyPost P fn R (.panic c) _ w from ⟨hd, h w hs⟩) k
end
end Go.PB
