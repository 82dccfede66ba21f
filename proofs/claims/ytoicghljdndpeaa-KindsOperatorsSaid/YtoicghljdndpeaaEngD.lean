/- Rules of the walk for regions that draw their order and write memory. No condition. -/
import Derived.Test.YtoicghljdndpeaaEng
import Derived.OrdersHeld
/-! regions that draw their order and write memory -/
attribute [local semireducible] Go.PB.Ev Go.PB.Wl Go.PB.W Go.PB.Wq
namespace Go.PB
open Go.RowKit
section
variable {P : Program} {Z : Exit → Act → World → Prop} {ops : Array Oper} {Q : Exit → Act → World → Prop} {M : List Nat} {w0 : World} {n : Nat} {D : List Deferred} {L L' : List (Nat × Value)} {H H' H0 : List Ent} {rest : List Oper} {k : List Kt}
  {d : Tmp} {dst : Option Tmp} {op : Op} {oty t t' : TypeId} {pos : String} {after : Array Edge} {g : Option (Nat × Bool)} {x y z : Operand} {fuel : Nat} {listed : Array Bool}
def Qd (Q : Exit → Act → World → Prop) : Exit → Act → World → Prop := fun e a w => e = .normal ∧ Q .normal a w
def Wd (P : Program) (ops : Array Oper) (Q : Exit → Act → World → Prop) (H0 : List Ent) (M : List Nat) (w0 : World) (n : Nat) (D : List Deferred) (fuel : Nat) (listed : Array Bool) (_ : Nat) (L : List (Nat × Value)) (H : List Ent) : Prop :=
  ∀ a w, Fz n L D a → St M w0 w H → wpAnyH P .any ops (Qd Q) (fun w => St M w0 w H0) fuel listed a w
def Qk (P : Program) (ops : Array Oper) (Q : Exit → Act → World → Prop) (H0 : List Ent) (M : List Nat) (w0 : World) (fuel : Nat) (listed : Array Bool) : Exit → Act → World → Prop :=
  fun e a w => e = .normal ∧ St M w0 w H0 ∧ wpAnyH P .any ops (Qd Q) (fun w => St M w0 w H0) fuel listed a w
theorem W.regionD {id : Nat} {l : List Oper} {H0 : List Ent} (hm : P.follows .mixedOrders = true) (_ : SubH H0 H)
    (h : Wd P l.toArray (kpost P Z k) H0 M w0 n D l.length (Array.replicate l.length false) 0 L H) : W P Z M w0 n D (.inl (.region id l.toArray true) :: k) L H := by
  intro a w hf hs
  refine Code.wp_mono (Q := Qd (kpost P Z k)) (fun e a2 w2 hq => ?_) (wp_region_held (S := fun w => St M w0 w H0) hm (by simpa using h a _ hf hs.drew))
  obtain ⟨rfl, hq⟩ := hq
  exact hq
theorem Wd.done {i : Nat} (hr : (Region.ready .any ops listed).isEmpty = true) (h : W P Z M w0 n D k L H) : Wd P ops (kpost P Z k) H0 M w0 n D fuel listed i L H :=
  fun a w hf hs => wpAnyH_done (List.isEmpty_iff.1 hr) ⟨rfl, h a w hf hs⟩ fuel
theorem Wd.take {v : Value} {i : Nat} (hr : (Region.ready .any ops listed).contains i = true) (hi : ops[i]? = some ⟨some d, op, oty, pos, after, g⟩) (hs : Region.noSelect ops = true) (hf : Region.free .any ops listed i = true)
    (hg : gdv ops L g = some true) (hd : Nat.blt d n = true) (he : Ev P M w0 n D L H0 op oty v) (hH : SubH H0 H)
    (h : Wd P ops Q H0 M w0 n D fuel (listed.setIfInBounds i true) (i + 1) ((d, v) :: L) H) : Wd P ops Q H0 M w0 n D (fuel + 1) listed i L H :=
  fun a w hfz hst => wpAnyH_take hi hs hf hr (fun _ _ _ hq => by cases hq.1) (.inl ⟨wanted_of hfz hg, fun w' hw' => he a w' hfz hw' _ _ _ _⟩) (hst.sub hH)
    (h _ w (hfz.put (dst := some d) (by simpa using hd)) hst)
theorem Wd.skip {i : Nat} (hr : (Region.ready .any ops listed).contains i = true) (hi : ops[i]? = some ⟨some d, op, oty, pos, after, g⟩) (hs : Region.noSelect ops = true) (hf : Region.free .any ops listed i = true)
    (hg : gdv ops L g = some false) (hd : Nat.blt d n = true) (hH : SubH H0 H)
    (h : Wd P ops Q H0 M w0 n D fuel (listed.setIfInBounds i true) (i + 1) ((d, undef) :: L) H) : Wd P ops Q H0 M w0 n D (fuel + 1) listed i L H :=
  fun a w hfz hst => wpAnyH_take (v := undef) hi hs hf hr (fun _ _ _ hq => by cases hq.1) (.inr ⟨wanted_of hfz hg, rfl⟩) (hst.sub hH)
    (h _ w (hfz.put (dst := some d) (by simpa using hd)) hst)
theorem upon_monoQ {o : Oper} {a : Act} {K : Act → World → Prop} {Q Q' : Exit → Act → World → Prop} (hp : ∀ c a w, Q (.panic c) a w → Q' (.panic c) a w) (ho : LetsOut Q → LetsOut Q') {r : Result Next} (h : o.upon P a K Q r) : o.upon P a K Q' r := by
  cases r with
  | ok nx w' =>
    cases nx with
    | value v => exact h
    | skip => exact h
    | defer d => exact h
    | enter f args =>
      exact Calls.mono h fun e w'' he => by
        cases e with
        | returned u => exact he
        | panicked c => exact hp _ _ _ he
        | outgrown => exact ho he
    | row row args => exact h
    | _ => exact h
  | halt x w' =>
    cases x with
    | panic u => exact hp _ _ _ h
    | _ => exact h
def AllO (p : Nat → Oper → Prop) : Nat → List Oper → Prop
  | _, [] => True
  | i, o :: l => p i o ∧ AllO p (i + 1) l
theorem AllO.cons {p : Nat → Oper → Prop} {i : Nat} {o : Oper} {l : List Oper} (h : p i o) (h' : AllO p (i + 1) l) : AllO p i (o :: l) := ⟨h, h'⟩
theorem AllO.nil {p : Nat → Oper → Prop} {i : Nat} : AllO p i [] := True.intro
theorem AllO.get {p : Nat → Oper → Prop} : ∀ {l : List Oper} {i : Nat}, AllO p i l → ∀ j o, l[j]? = some o → p (i + j) o
  | [], _, _, j, o, h => by simp at h
  | _ :: l, i, h, 0, o, e => by simp at e; subst e; exact h.1
  | _ :: l, i, h, j + 1, o, e => by have := AllO.get h.2 j o (by simpa using e); rwa [Nat.add_right_comm] at this
theorem Wd.next {i : Nat} (h : Wd P ops Q H0 M w0 n D fuel listed (i + 1) L H) : Wd P ops Q H0 M w0 n D fuel listed i L H := h
theorem Wd.not {i : Nat} (_ : (Region.ready .any ops listed).contains i = false) (h : Wd P ops Q H0 M w0 n D fuel listed (i + 1) L H) : Wd P ops Q H0 M w0 n D fuel listed i L H := h
theorem Wd.all {l : List Oper} {j : Nat} (_ : Nat.ble l.length j = true) (hne : (Region.ready .any l.toArray listed).isEmpty = false)
    (h : AllO (fun i o => (Region.ready .any l.toArray listed).contains i = false ∨ Wl P l.toArray (Qk P l.toArray Q H0 M w0 fuel (listed.setIfInBounds i true)) M w0 n D [o] L H) 0 l) : Wd P l.toArray Q H0 M w0 n D (fuel + 1) listed j L H := by
  intro a w hf hs
  refine wpAnyH_all rfl (by intro e; rw [e] at hne; cases hne) fun i hi => ?_
  have hex : ∃ o, l[i]? = some o := by
    simp only [Region.ready, List.mem_filter, List.mem_range, List.size_toArray] at hi
    exact ⟨_, List.getElem?_eq_getElem hi.1⟩
  obtain ⟨o, ho'⟩ := hex
  have ho : l.toArray[i]? = some o := by simpa using ho'
  rcases h.get i o ho' with hw | hw
  · rw [Nat.zero_add] at hw
    rw [show (Region.ready .any l.toArray listed).contains i = true by simpa using hi] at hw
    cases hw
  rw [Nat.zero_add] at hw
  have hw := hw a w hf hs
  unfold wpOp
  simp only [ho]
  unfold wpList at hw
  have hK : (wpList P l.toArray (Qk P l.toArray Q H0 M w0 fuel (listed.setIfInBounds i true)) []) = fun a' w' => (.normal : Exit) = .normal ∧ St M w0 w' H0 ∧ wpAnyH P .any l.toArray (Qd Q) (fun w => St M w0 w H0) fuel (listed.setIfInBounds i true) a' w' := rfl
  have hlet : ∀ {R : Prop}, LetsOut (Qk P l.toArray Q H0 M w0 fuel (listed.setIfInBounds i true)) → R := by
    rintro R ⟨a, w, h, _⟩; cases h
  split
  · rename_i hwt
    rw [if_pos hwt] at hw
    rcases hw with hw | hw
    · refine .inl (Oper.wp_mono (fun a' w' hk => ?_) (?_ : o.wp P a w (wpList P l.toArray (Qk P l.toArray Q H0 M w0 fuel (listed.setIfInBounds i true)) []) (Qd Q)))
      · rw [hK] at hk; exact ⟨hk.2.1, hk.2.2⟩
      · exact upon_monoQ (fun c a w hq => by cases hq.1) (fun h => hlet h) hw
    · exact hlet hw.2
  · rename_i hwt
    rw [if_neg hwt] at hw
    rw [hK] at hw
    exact ⟨hw.2.1, hw.2.2⟩
theorem Wl.nilD (hH : SubH H0 H) (h : Wd P ops Q H0 M w0 n D fuel listed 0 L H) : Wl P ops (Qk P ops Q H0 M w0 fuel listed) M w0 n D [] L H :=
  fun a w hf hs => ⟨rfl, hs.sub hH, h a w hf hs⟩
theorem Wd.split {p : Prop} [Decidable p] {i d : Nat} (hr : (Region.ready .any ops listed).contains i = true) (hi : ops[i]? = some ⟨dst, op, oty, pos, after, g⟩) (hd : gslot ops g = some d) (hv : look L d = some (.bool (decide p)))
    (ht : p → Wd P ops Q H0 M w0 n D fuel listed i ((d, .bool true) :: L) H)
    (hf : ¬p → Wd P ops Q H0 M w0 n D fuel listed i ((d, .bool false) :: L) H) : Wd P ops Q H0 M w0 n D fuel listed i L H := by
  have _ := hd
  have _ := hi
  have _ := hr
  intro a w hfz hs
  by_cases hp : p
  · exact ht hp a w (hfz.sub' (by rw [hv]; simp [hp])) hs
  · exact hf hp a w (hfz.sub' (by rw [hv]; simp [hp])) hs
theorem Wd.splitB {b : Bool} {i d : Nat} (hr : (Region.ready .any ops listed).contains i = true) (hi : ops[i]? = some ⟨dst, op, oty, pos, after, g⟩) (hd : gslot ops g = some d) (hv : look L d = some (.bool b))
    (ht : b = true → Wd P ops Q H0 M w0 n D fuel listed i ((d, .bool true) :: L) H)
    (hf : b = false → Wd P ops Q H0 M w0 n D fuel listed i ((d, .bool false) :: L) H) : Wd P ops Q H0 M w0 n D fuel listed i L H := by
  have _ := hd
  have _ := hi
  have _ := hr
  intro a w hfz hs
  cases hb : b with
  | true => exact ht hb a w (hfz.sub' (by rw [hv, hb])) hs
  | false => exact hf hb a w (hfz.sub' (by rw [hv, hb])) hs
end
end Go.PB
attribute [irreducible] Go.PB.Wd
