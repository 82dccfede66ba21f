/- Regions that draw their order, whose reads stand ahead of all writes: rules of the walk. No condition. -/
import Derived.Test.YtbinaeemcidicaaGreatDoorZEng
import Derived.Test.YtbinaeemcidicaaGreatDoorZEN
import Derived.Recover
set_option maxHeartbeats 16000000
namespace Go
section
variable {P : Program} {ops : Array Oper} {Q : Exit → Act → World → Prop} {md : Region.Mode} {S : Array Bool → World → Prop} {T : World → Prop} {I : Array Bool → Prop}
def wpAnyJ (P : Program) (md : Region.Mode) (ops : Array Oper) (Q : Exit → Act → World → Prop) (S : Array Bool → World → Prop) : Nat → Array Bool → Act → World → Prop
 | 0, listed, a, w => Region.ready md ops listed = [] ∧ Q .normal a w
 | fuel + 1, listed, a, w =>
  (Region.ready md ops listed = [] → Q .normal a w) ∧
  ∀ i ∈ Region.ready md ops listed, wpOp P ops Q i (fun a' w' => S (listed.setIfInBounds i true) w' ∧ wpAnyJ P md ops Q S fuel (listed.setIfInBounds i true) a' w') a w
theorem wpAny_of_J : ∀ (fuel : Nat) (listed : Array Bool) (a : Act) (w : World), wpAnyJ P md ops Q S fuel listed a w → wpAny P md ops Q fuel listed a w
 | 0, _, _, _, h => h
 | fuel + 1, _, _, _, h => ⟨h.1, fun i hi => wpOp_mono (fun a' w' h' => wpAny_of_J fuel _ a' w' h'.2) (h.2 i hi)⟩
theorem wpAnyJ_first {i : Nat} {oi : Oper} {v : Value} (hi : ops[i]? = some oi) (hsel : ∀ (j : Nat) (o : Oper) cs b, ops[j]? = some o → o.op ≠ .select cs b)
  (hQ : ∀ c a w, Q (.panic c) (a.put oi.dst v) w → Q (.panic c) a w) (hSi : ∀ listed w, S (listed.setIfInBounds i true) w ↔ S listed w) (hT : ∀ listed w, I listed → S listed w → T w)
  (hI : ∀ listed j oj, I listed → ops[j]? = some oj → j ≠ i → (∀ e ∈ oj.after, Region.binds md e = true → e.on ≠ i) → I (listed.setIfInBounds j true)) :
  ∀ (fuel : Nat) (listed : Array Bool) (a : Act) (w : World),
   (∀ j oj, ops[j]? = some oj → j ≠ i → listed.getD j true = false → (∀ e ∈ oj.after, Region.binds md e = true → e.on ≠ i) → oi.apart ops oj = true) →
   i ∈ Region.ready md ops listed → YieldsIf P ops T oi v a → I listed → S listed w →
   wpAnyJ P md ops Q S fuel (listed.setIfInBounds i true) (a.put oi.dst v) w → wpAnyJ P md ops Q S (fuel + 1) listed a w := by
 intro fuel
 induction fuel with
 | zero =>
  intro listed a w _ hr hy hIl hS H
  refine ⟨fun h => (by rw [h] at hr; cases hr), fun j hj => ?_⟩
  by_cases hji : j = i
  ·subst hji; exact hy.wpOp hi (hT _ _ hIl hS) ⟨(hSi _ _).2 hS, H⟩
  ·have := ready_mono hj hji
   rw [H.1] at this
   cases this
 | succ fuel ih =>
  intro listed a w hfree hr hy hIl hS H
  refine ⟨fun h => (by rw [h] at hr; cases hr), fun j hj => ?_⟩
  by_cases hji : j = i
  ·subst hji; exact hy.wpOp hi (hT _ _ hIl hS) ⟨(hSi _ _).2 hS, H⟩
  ·have h1 := H.2 j (ready_mono hj hji)
   obtain ⟨hjun, oj, hoj, hall⟩ := mem_ready.1 hj
   have hnot : ∀ e ∈ oj.after, Region.binds md e = true → e.on ≠ i := fun e he hb heq => by
    have h1 := hall e he hb
    have h0 := (mem_ready.1 hr).1
    rw [heq] at h1
    rcases Nat.lt_or_ge i listed.size with h' | h'
    ·simp [h'] at h0 h1; rw [h0] at h1; cases h1
    ·simp [Array.getElem?_eq_none h'] at h1
   have h2 := wpOp_putIf hoj (hfree j oj hoj hji hjun hnot) (fun cs b => hsel i oi cs b hi) (fun cs b => hsel j oj cs b hoj) hQ hy h1
   have hfree' : ∀ k ok, ops[k]? = some ok → k ≠ i → (listed.setIfInBounds j true).getD k true = false →
     (∀ e ∈ ok.after, Region.binds md e = true → e.on ≠ i) → oi.apart ops ok = true := fun k ok hk hki hun hno => by
    refine hfree k ok hk hki ?_ hno
    by_cases hjk : j = k
    ·subst hjk; exact hjun
    ·rw [getD_set_ne true hjk] at hun; exact hun
   refine wpOp_mono (fun a' w' h3 => ?_) h2
   have hS' : S (listed.setIfInBounds j true) w' := by
    have := h3.2.1
    rw [Array.setIfInBounds_comm _ _ (Ne.symm hji)] at this
    exact (hSi _ _).1 this
   refine ⟨hS', ih (listed.setIfInBounds j true) a' w' hfree' (ready_mono hr (Ne.symm hji)) h3.1 (hI listed j oj hIl hoj hji hnot) hS' ?_⟩
   rw [Array.setIfInBounds_comm _ _ hji]
   exact h3.2.2
theorem wpAnyJ_all {rs : List Nat} {fuel : Nat} {listed : Array Bool} {a : Act} {w : World} (hr : Region.ready md ops listed = rs) (hne : rs ≠ [])
  (h : ∀ i ∈ rs, wpOp P ops Q i (fun a' w' => S (listed.setIfInBounds i true) w' ∧ wpAnyJ P md ops Q S fuel (listed.setIfInBounds i true) a' w') a w) : wpAnyJ P md ops Q S (fuel + 1) listed a w :=
 ⟨fun h0 => absurd (hr ▸ h0) hne, hr ▸ h⟩
theorem wpAnyJ_done {listed : Array Bool} {a : Act} {w : World} (hr : Region.ready md ops listed = []) (h : Q .normal a w) :
  ∀ fuel, wpAnyJ P md ops Q S fuel listed a w
 | 0 => ⟨hr, h⟩
 | _ + 1 => ⟨fun _ => h, by rw [hr]; simp⟩
theorem wp_region_J {id : Nat} {a : Act} {w : World} (hm : P.follows .mixedOrders = true)
  (h : wpAnyJ P .any ops Q S ops.size (Array.replicate ops.size false) a { w with drawn := w.drawn + 1 }) : (Code.region id ops true).wp P Q a w :=
 wp_region_any hm (wpAny_of_J _ _ _ _ h)
end
end Go
namespace Go.PB
open Go.RowKit
def waitJ (ops : Array Oper) (ws : List Nat) (i : Nat) : Bool :=
 ws.all fun j => match ops[j]? with
  | none => true
  | some oj => oj.after.any (fun e => Region.binds .any e && e.on == i)
def noW (ws : List Nat) (listed : Array Bool) : Bool := ws.all fun j => !listed.getD j false
def pickH (ws : List Nat) (H1 H0 : List Ent) (listed : Array Bool) : List Ent := bif noW ws listed then H0 else H1
theorem noW_set {ws : List Nat} {listed : Array Bool} {i : Nat} (h : ws.any (Nat.beq i) = false) : noW ws (listed.setIfInBounds i true) = noW ws listed := by
 unfold noW
 rw [Bool.eq_iff_iff, List.all_eq_true, List.all_eq_true]
 have hne : ∀ j ∈ ws, i ≠ j := fun j hj e => by
  have := List.any_eq_false.1 h j hj
  rw [e] at this
  exact this Zgh
 constructor
 ·intro hh j hj
  have := hh j hj
  rwa [getD_set_ne false (hne j hj)] at this
 ·intro hh j hj
  rw [getD_set_ne false (hne j hj)]
  exact hh j hj
section
variable {P : Program} {Z : Exit → Act → World → Prop} {ops : Array Oper} {Q : Exit → Act → World → Prop} {M : List Nat} {w0 : World} {n : Nat} {D : List Deferred} {L L' : List (Nat × Value)} {H H' H0 H1 : List Ent} {ws : List Nat} {rest : List Oper} {k : List Kt}
 {d : Tmp} {dst : Option Tmp} {op : Op} {oty t t' : TypeId} {pos : String} {after : Array Edge} {g : Option (Nat × Bool)} {x y z : Operand} {fuel : Nat} {listed : Array Bool}
def SJ (M : List Nat) (w0 : World) (ws : List Nat) (H1 H0 : List Ent) (listed : Array Bool) (w : World) : Prop := St M w0 w (pickH ws H1 H0 listed) ∧ St M w0 w H1
def Wj (P : Program) (ops : Array Oper) (Q : Exit → Act → World → Prop) (ws : List Nat) (H1 H0 : List Ent) (M : List Nat) (w0 : World) (n : Nat) (D : List Deferred) (fuel : Nat) (listed : Array Bool) (_ : Nat) (L : List (Nat × Value)) (H : List Ent) : Prop :=
 ∀ a w, Fz n L D a → St M w0 w H → wpAnyJ P .any ops (Qd Q) (SJ M w0 ws H1 H0) fuel listed a w
def Qj (P : Program) (ops : Array Oper) (Q : Exit → Act → World → Prop) (ws : List Nat) (H1 H0 : List Ent) (M : List Nat) (w0 : World) (fuel : Nat) (listed : Array Bool) : Exit → Act → World → Prop :=
 fun e a w => e = .normal ∧ SJ M w0 ws H1 H0 listed w ∧ wpAnyJ P .any ops (Qd Q) (SJ M w0 ws H1 H0) fuel listed a w
theorem Wj.done {i : Nat} (hr : (Region.ready .any ops listed).isEmpty = true) (h : W P Z M w0 n D k L H) : Wj P ops (kpost P Z k) ws H1 H0 M w0 n D fuel listed i L H := by
 unfold W at h
 exact fun a w hf hs => wpAnyJ_done (List.isEmpty_iff.1 hr) ⟨rfl, h a w hf hs⟩ fuel
theorem waitJ_spec {i : Nat} (h : waitJ ops ws i = true) {j : Nat} {oj : Oper} (hj : ops[j]? = some oj) (hno : ∀ e ∈ oj.after, Region.binds .any e = true → e.on ≠ i) : ws.any (Nat.beq j) = false := by
 rw [Bool.eq_false_iff]
 intro hc
 obtain ⟨j', hm, hb⟩ := List.any_eq_true.1 hc
 have e : j' = j := (Nat.eq_of_beq_eq_true hb).symm
 subst e
 have := List.all_eq_true.1 h j' hm
 rw [hj] at this
 simp only at this
 rw [Array.any_eq_true'] at this
 obtain ⟨e, he, hb⟩ := this
 simp only [Bool.and_eq_true, beq_iff_eq] at hb
 exact hno e he hb.1 hb.2
theorem SJ_set {i : Nat} (h : ws.any (Nat.beq i) = false) (listed : Array Bool) (w : World) : SJ M w0 ws H1 H0 (listed.setIfInBounds i true) w ↔ SJ M w0 ws H1 H0 listed w := by
 unfold SJ pickH
 rw [noW_set h]
theorem Wj.take0 {v : Value} {i : Nat} (hr : (Region.ready .any ops listed).contains i = true) (hi : ops[i]? = some ⟨some d, op, oty, pos, after, g⟩) (hs : Region.noSelect ops = true) (hf : Region.free .any ops listed i = true) (hw : waitJ ops ws i = true) (hii : ws.any (Nat.beq i) = false) (hnw : noW ws listed = true)
  (hg : gdv ops L g = some true) (hd : Nat.blt d n = true) (he : Ev P M w0 n D L H0 op oty v) (hH : SubH H0 H) (h1 : SubH H1 H)
  (h : Wj P ops Q ws H1 H0 M w0 n D fuel (listed.setIfInBounds i true) (i + 1) ((d, v) :: L) H) : Wj P ops Q ws H1 H0 M w0 n D (fuel + 1) listed i L H := by
 intro a w hfz hst
 unfold Ev at he
 have hpk : ∀ listed, noW ws listed = true → pickH ws H1 H0 listed = H0 := fun listed h => by unfold pickH; rw [h]; rfl
 exact wpAnyJ_first (T := fun w => St M w0 w H0) (I := fun listed => noW ws listed = true) hi (Region.noSelect_spec hs) (fun _ _ _ hq => by cases hq.1) (SJ_set hii)
  (fun listed w hl hS => by have := hS.1; rwa [hpk listed hl] at this) (fun listed j oj hl hj hne hno => by rw [noW_set (waitJ_spec hw hj hno)]; exact hl) fuel listed a w
  (Region.free_spec hi hf) Zmh (.inl ⟨wanted_of hfz hg, fun w' hw' => he a w' hfz hw' _ _ _ _⟩) hnw ⟨by rw [hpk listed hnw]; exact hst.sub hH, hst.sub h1⟩
  (h _ w (hfz.put (dst := some d) Zct) hst)
theorem Wj.take1 {v : Value} {i : Nat} (hr : (Region.ready .any ops listed).contains i = true) (hi : ops[i]? = some ⟨some d, op, oty, pos, after, g⟩) (hs : Region.noSelect ops = true) (hf : Region.free .any ops listed i = true) (hii : ws.any (Nat.beq i) = false)
  (hg : gdv ops L g = some true) (hd : Nat.blt d n = true) (he : Ev P M w0 n D L H1 op oty v) (hH : SubH (pickH ws H1 H0 listed) H) (h1 : SubH H1 H)
  (h : Wj P ops Q ws H1 H0 M w0 n D fuel (listed.setIfInBounds i true) (i + 1) ((d, v) :: L) H) : Wj P ops Q ws H1 H0 M w0 n D (fuel + 1) listed i L H := by
 intro a w hfz hst
 unfold Ev at he
 exact wpAnyJ_first (T := fun w => St M w0 w H1) (I := fun _ => True) hi (Region.noSelect_spec hs) (fun _ _ _ hq => by cases hq.1) (SJ_set hii)
  (fun listed w _ hS => hS.2) (fun _ _ _ _ _ _ _ => trivial) fuel listed a w
  (Region.free_spec hi hf) Zmh (.inl ⟨wanted_of hfz hg, fun w' hw' => he a w' hfz hw' _ _ _ _⟩) trivial ⟨hst.sub hH, hst.sub h1⟩
  (h _ w (hfz.put (dst := some d) Zct) hst)
theorem Wj.skip1 {i : Nat} (hr : (Region.ready .any ops listed).contains i = true) (hi : ops[i]? = some ⟨some d, op, oty, pos, after, g⟩) (hs : Region.noSelect ops = true) (hf : Region.free .any ops listed i = true) (hii : ws.any (Nat.beq i) = false)
  (hg : gdv ops L g = some false) (hd : Nat.blt d n = true) (hH : SubH (pickH ws H1 H0 listed) H) (h1 : SubH H1 H)
  (h : Wj P ops Q ws H1 H0 M w0 n D fuel (listed.setIfInBounds i true) (i + 1) ((d, undef) :: L) H) : Wj P ops Q ws H1 H0 M w0 n D (fuel + 1) listed i L H := by
 intro a w hfz hst
 exact wpAnyJ_first (T := fun w => St M w0 w H1) (I := fun _ => True) (v := undef) hi (Region.noSelect_spec hs) (fun _ _ _ hq => by cases hq.1) (SJ_set hii)
  (fun listed w _ hS => hS.2) (fun _ _ _ _ _ _ _ => trivial) fuel listed a w
  (Region.free_spec hi hf) Zmh (.inr ⟨wanted_of hfz hg, rfl⟩) trivial ⟨hst.sub hH, hst.sub h1⟩
  (h _ w (hfz.put (dst := some d) Zct) hst)
theorem Wj.next {i : Nat} (h : Wj P ops Q ws H1 H0 M w0 n D fuel listed (i + 1) L H) : Wj P ops Q ws H1 H0 M w0 n D fuel listed i L H := h
theorem Wj.not {i : Nat} (_ : (Region.ready .any ops listed).contains i = false) (h : Wj P ops Q ws H1 H0 M w0 n D fuel listed (i + 1) L H) : Wj P ops Q ws H1 H0 M w0 n D fuel listed i L H := h
theorem Wj.chk {i : Nat} (_ : ops[i]? = some ⟨dst, op, oty, pos, after, g⟩) (_ : gdv ops L g = some true) (h : False) : Wj P ops Q ws H1 H0 M w0 n D fuel listed i L H := h.elim
theorem Wj.all {l : List Oper} {j : Nat} (_ : Nat.ble l.length j = true) (hne : (Region.ready .any l.toArray listed).isEmpty = false)
  (h : AllO (fun i o => (Region.ready .any l.toArray listed).contains i = false ∨ Wl P l.toArray (Qj P l.toArray Q ws H1 H0 M w0 fuel (listed.setIfInBounds i true)) M w0 n D [o] L H) 0 l) : Wj P l.toArray Q ws H1 H0 M w0 n D (fuel + 1) listed j L H := by
 intro a w hf hs
 refine wpAnyJ_all rfl Zfk fun i hi => ?_
 have hex : ∃ o, l[i]? = some o := by
  simp only [Region.ready, List.mem_filter, List.mem_range, List.size_toArray] at hi
  exact ⟨_, List.getElem?_eq_getElem hi.1⟩
 obtain ⟨o, ho'⟩ := hex
 have ho : l.toArray[i]? = some o := by simpa using ho'
 rcases h.get i o ho' with hw | hw
 ·rw [Nat.zero_add] at hw
  rw [show (Region.ready .any l.toArray listed).contains i = true by simpa using hi] at hw
  cases hw
 rw [Nat.zero_add] at hw
 unfold Wl at hw
 have hw := hw a w hf hs
 unfold wpOp
 simp only [ho]
 unfold wpList at hw
 have hK : (wpList P l.toArray (Qj P l.toArray Q ws H1 H0 M w0 fuel (listed.setIfInBounds i true)) []) = fun a' w' => (.normal : Exit) = .normal ∧ SJ M w0 ws H1 H0 (listed.setIfInBounds i true) w' ∧ wpAnyJ P .any l.toArray (Qd Q) (SJ M w0 ws H1 H0) fuel (listed.setIfInBounds i true) a' w' := rfl
 have hlet : ∀ {R : Prop}, LetsOut (Qj P l.toArray Q ws H1 H0 M w0 fuel (listed.setIfInBounds i true)) → R := by
  rintro R ⟨a, w, h, _⟩; cases h
 split
 ·rename_i hwt
  rw [if_pos hwt] at hw
  rcases hw with hw | hw
  ·refine .inl (Oper.wp_mono (fun a' w' hk => ?_) (?_ : o.wp P a w (wpList P l.toArray (Qj P l.toArray Q ws H1 H0 M w0 fuel (listed.setIfInBounds i true)) []) (Qd Q)))
   ·rw [hK] at hk; exact ⟨hk.2.1, hk.2.2⟩
   ·exact upon_monoQ (fun c a w hq => by cases hq.1) (fun h => hlet h) hw
  ·exact hlet hw.2
 ·rename_i hwt
  rw [if_neg hwt] at hw
  rw [hK] at hw
  exact ⟨hw.2.1, hw.2.2⟩
theorem Wj.split {p : Prop} [Decidable p] {i d : Nat} (hr : (Region.ready .any ops listed).contains i = true) (hi : ops[i]? = some ⟨dst, op, oty, pos, after, g⟩) (hd : gslot ops g = some d) (hv : look L d = some (.bool (decide p)))
  (ht : p → Wj P ops Q ws H1 H0 M w0 n D fuel listed i ((d, .bool true) :: L) H)
  (hf : ¬p → Wj P ops Q ws H1 H0 M w0 n D fuel listed i ((d, .bool false) :: L) H) : Wj P ops Q ws H1 H0 M w0 n D fuel listed i L H := by
 have _ := hd
 have _ := hi
 have _ := hr
 intro a w hfz hs
 by_cases hp : p
 ·exact ht hp a w (hfz.sub' Zd5) hs
 ·exact hf hp a w (hfz.sub' Zd5) hs
theorem Wj.splitB {b : Bool} {i d : Nat} (hr : (Region.ready .any ops listed).contains i = true) (hi : ops[i]? = some ⟨dst, op, oty, pos, after, g⟩) (hd : gslot ops g = some d) (hv : look L d = some (.bool b))
  (ht : b = true → Wj P ops Q ws H1 H0 M w0 n D fuel listed i ((d, .bool true) :: L) H)
  (hf : b = false → Wj P ops Q ws H1 H0 M w0 n D fuel listed i ((d, .bool false) :: L) H) : Wj P ops Q ws H1 H0 M w0 n D fuel listed i L H := by
 have _ := hd
 have _ := hi
 have _ := hr
 intro a w hfz hs
 cases hb : b with
 | true => exact ht hb a w (hfz.sub' Zew) hs
 | false => exact hf hb a w (hfz.sub' Zew) hs
end
end Go.PB
namespace Go.PB
open Go.RowKit
section
variable {P : Program} {Z : Exit → Act → World → Prop} {ops : Array Oper} {Q : Exit → Act → World → Prop} {M : List Nat} {w0 : World} {n : Nat} {D : List Deferred} {L L' : List (Nat × Value)} {H H' H0 H1 : List Ent} {ws : List Nat} {K : List PanicEntry → World → Prop} {rest : List Oper} {k : List Kt}
 {d : Tmp} {dst : Option Tmp} {op : Op} {oty t t' : TypeId} {pos : String} {after : Array Edge} {g : Option (Nat × Bool)} {x y z : Operand} {fuel : Nat} {listed : Array Bool}
def Wm (P : Program) (ops : Array Oper) (Q : Exit → Act → World → Prop) (K : List PanicEntry → World → Prop) (ws : List Nat) (H1 H0 : List Ent) (M : List Nat) (w0 : World) (n : Nat) (D : List Deferred) (fuel : Nat) (listed : Array Bool) (_ : Nat) (L : List (Nat × Value)) (H : List Ent) : Prop :=
 ∀ a w, Fz n L D a → St M w0 w H → wpAnyJ P .any ops (Qp D K Q) (SJ M w0 ws H1 H0) fuel listed a w
def Qm (P : Program) (ops : Array Oper) (Q : Exit → Act → World → Prop) (K : List PanicEntry → World → Prop) (ws : List Nat) (H1 H0 : List Ent) (M : List Nat) (w0 : World) (D : List Deferred) (fuel : Nat) (listed : Array Bool) : Exit → Act → World → Prop :=
 fun e a w => (e = .normal ∧ SJ M w0 ws H1 H0 listed w ∧ wpAnyJ P .any ops (Qp D K Q) (SJ M w0 ws H1 H0) fuel listed a w) ∨ ∃ c, e = .panic c ∧ a.defers = D ∧ K c w
theorem W.regionM {fn : Func} {R : Ending → World → Prop} {id : Nat} {l : List Oper} (ws : List Nat) (H1 H0 : List Ent) (hm : P.follows .mixedOrders = true)
  (h : Wm P l.toArray (kpost P (bodyPost P fn R) k) (fun c w => R (.panicked c) w) ws H1 H0 M w0 n [] l.length (Array.replicate l.length false) 0 L H) : W P (bodyPost P fn R) M w0 n [] (.inl (.region id l.toArray true) :: k) L H := by
 unfold W
 intro a w hf hs
 refine Code.wp_mono (Q := Qp [] (fun c w => R (.panicked c) w) (kpost P (bodyPost P fn R) k)) (fun e a2 w2 hq => ?_) (wp_region_J (S := SJ M w0 ws H1 H0) hm (by simpa using h a _ hf hs.drew))
 rcases hq with ⟨rfl, hq⟩ | ⟨c, rfl, hd, hk⟩
 ·exact hq
 ·exact kpost_panic (show bodyPost P fn R (.panic c) a2 w2 from ⟨hd, hk⟩) k
theorem Wm.done {i : Nat} (hr : (Region.ready .any ops listed).isEmpty = true) (h : W P Z M w0 n D k L H) : Wm P ops (kpost P Z k) K ws H1 H0 M w0 n D fuel listed i L H := by
 unfold W at h
 exact fun a w hf hs => wpAnyJ_done (List.isEmpty_iff.1 hr) (.inl ⟨rfl, h a w hf hs⟩) fuel
theorem Wm.take0 {v : Value} {i : Nat} (hr : (Region.ready .any ops listed).contains i = true) (hi : ops[i]? = some ⟨some d, op, oty, pos, after, g⟩) (hs : Region.noSelect ops = true) (hf : Region.free .any ops listed i = true) (hw : waitJ ops ws i = true) (hii : ws.any (Nat.beq i) = false) (hnw : noW ws listed = true)
  (hg : gdv ops L g = some true) (hd : Nat.blt d n = true) (he : Ev P M w0 n D L H0 op oty v) (hH : SubH H0 H) (h1 : SubH H1 H)
  (h : Wm P ops Q K ws H1 H0 M w0 n D fuel (listed.setIfInBounds i true) (i + 1) ((d, v) :: L) H) : Wm P ops Q K ws H1 H0 M w0 n D (fuel + 1) listed i L H := by
 intro a w hfz hst
 unfold Ev at he
 have hpk : ∀ listed, noW ws listed = true → pickH ws H1 H0 listed = H0 := fun listed h => by unfold pickH; rw [h]; rfl
 exact wpAnyJ_first (T := fun w => St M w0 w H0) (I := fun listed => noW ws listed = true) hi (Region.noSelect_spec hs) (fun c a w hq => Qp.put hq) (SJ_set hii)
  (fun listed w hl hS => by have := hS.1; rwa [hpk listed hl] at this) (fun listed j oj hl hj hne hno => by rw [noW_set (waitJ_spec hw hj hno)]; exact hl) fuel listed a w
  (Region.free_spec hi hf) Zmh (.inl ⟨wanted_of hfz hg, fun w' hw' => he a w' hfz hw' _ _ _ _⟩) hnw ⟨by rw [hpk listed hnw]; exact hst.sub hH, hst.sub h1⟩
  (h _ w (hfz.put (dst := some d) Zct) hst)
theorem Wm.take1 {v : Value} {i : Nat} (hr : (Region.ready .any ops listed).contains i = true) (hi : ops[i]? = some ⟨some d, op, oty, pos, after, g⟩) (hs : Region.noSelect ops = true) (hf : Region.free .any ops listed i = true) (hii : ws.any (Nat.beq i) = false)
  (hg : gdv ops L g = some true) (hd : Nat.blt d n = true) (he : Ev P M w0 n D L H1 op oty v) (hH : SubH (pickH ws H1 H0 listed) H) (h1 : SubH H1 H)
  (h : Wm P ops Q K ws H1 H0 M w0 n D fuel (listed.setIfInBounds i true) (i + 1) ((d, v) :: L) H) : Wm P ops Q K ws H1 H0 M w0 n D (fuel + 1) listed i L H := by
 intro a w hfz hst
 unfold Ev at he
 exact wpAnyJ_first (T := fun w => St M w0 w H1) (I := fun _ => True) hi (Region.noSelect_spec hs) (fun c a w hq => Qp.put hq) (SJ_set hii)
  (fun listed w _ hS => hS.2) (fun _ _ _ _ _ _ _ => trivial) fuel listed a w
  (Region.free_spec hi hf) Zmh (.inl ⟨wanted_of hfz hg, fun w' hw' => he a w' hfz hw' _ _ _ _⟩) trivial ⟨hst.sub hH, hst.sub h1⟩
  (h _ w (hfz.put (dst := some d) Zct) hst)
theorem Wm.skip1 {i : Nat} (hr : (Region.ready .any ops listed).contains i = true) (hi : ops[i]? = some ⟨some d, op, oty, pos, after, g⟩) (hs : Region.noSelect ops = true) (hf : Region.free .any ops listed i = true) (hii : ws.any (Nat.beq i) = false)
  (hg : gdv ops L g = some false) (hd : Nat.blt d n = true) (hH : SubH (pickH ws H1 H0 listed) H) (h1 : SubH H1 H)
  (h : Wm P ops Q K ws H1 H0 M w0 n D fuel (listed.setIfInBounds i true) (i + 1) ((d, undef) :: L) H) : Wm P ops Q K ws H1 H0 M w0 n D (fuel + 1) listed i L H := by
 intro a w hfz hst
 exact wpAnyJ_first (T := fun w => St M w0 w H1) (I := fun _ => True) (v := undef) hi (Region.noSelect_spec hs) (fun c a w hq => Qp.put hq) (SJ_set hii)
  (fun listed w _ hS => hS.2) (fun _ _ _ _ _ _ _ => trivial) fuel listed a w
  (Region.free_spec hi hf) Zmh (.inr ⟨wanted_of hfz hg, rfl⟩) trivial ⟨hst.sub hH, hst.sub h1⟩
  (h _ w (hfz.put (dst := some d) Zct) hst)
theorem Wm.next {i : Nat} (h : Wm P ops Q K ws H1 H0 M w0 n D fuel listed (i + 1) L H) : Wm P ops Q K ws H1 H0 M w0 n D fuel listed i L H := h
theorem Wm.not {i : Nat} (_ : (Region.ready .any ops listed).contains i = false) (h : Wm P ops Q K ws H1 H0 M w0 n D fuel listed (i + 1) L H) : Wm P ops Q K ws H1 H0 M w0 n D fuel listed i L H := h
theorem Wm.chk {i : Nat} (_ : ops[i]? = some ⟨dst, op, oty, pos, after, g⟩) (_ : gdv ops L g = some true) (h : False) : Wm P ops Q K ws H1 H0 M w0 n D fuel listed i L H := h.elim
theorem Wm.all {l : List Oper} {j : Nat} (_ : Nat.ble l.length j = true) (hne : (Region.ready .any l.toArray listed).isEmpty = false)
  (h : AllO (fun i o => (Region.ready .any l.toArray listed).contains i = false ∨ Wl P l.toArray (Qm P l.toArray Q K ws H1 H0 M w0 D fuel (listed.setIfInBounds i true)) M w0 n D [o] L H) 0 l) : Wm P l.toArray Q K ws H1 H0 M w0 n D (fuel + 1) listed j L H := by
 intro a w hf hs
 refine wpAnyJ_all rfl Zfk fun i hi => ?_
 have hex : ∃ o, l[i]? = some o := by
  simp only [Region.ready, List.mem_filter, List.mem_range, List.size_toArray] at hi
  exact ⟨_, List.getElem?_eq_getElem hi.1⟩
 obtain ⟨o, ho'⟩ := hex
 have ho : l.toArray[i]? = some o := by simpa using ho'
 rcases h.get i o ho' with hw | hw
 ·rw [Nat.zero_add] at hw
  rw [show (Region.ready .any l.toArray listed).contains i = true by simpa using hi] at hw
  cases hw
 rw [Nat.zero_add] at hw
 unfold Wl at hw
 have hw := hw a w hf hs
 unfold wpOp
 simp only [ho]
 unfold wpList at hw
 have hK : ∀ a' w', wpList P l.toArray (Qm P l.toArray Q K ws H1 H0 M w0 D fuel (listed.setIfInBounds i true)) [] a' w' → SJ M w0 ws H1 H0 (listed.setIfInBounds i true) w' ∧ wpAnyJ P .any l.toArray (Qp D K Q) (SJ M w0 ws H1 H0) fuel (listed.setIfInBounds i true) a' w' := fun a' w' h => by
  rcases (show Qm P l.toArray Q K ws H1 H0 M w0 D fuel (listed.setIfInBounds i true) .normal a' w' from h) with ⟨_, h1, h2⟩ | ⟨c, e, _⟩
  ·exact ⟨h1, h2⟩
  ·cases e
 have hlet : ∀ {R : Prop}, LetsOut (Qm P l.toArray Q K ws H1 H0 M w0 D fuel (listed.setIfInBounds i true)) → R := by
  rintro R ⟨a, w, h⟩
  rcases h with ⟨h, _⟩ | ⟨c, h, _⟩ <;> cases h
 split
 ·rename_i hwt
  rw [if_pos hwt] at hw
  rcases hw with hw | hw
  ·refine .inl (Oper.wp_mono (fun a' w' hk => ?_) (?_ : o.wp P a w (wpList P l.toArray (Qm P l.toArray Q K ws H1 H0 M w0 D fuel (listed.setIfInBounds i true)) []) (Qp D K Q)))
   ·exact hK _ _ hk
   ·refine upon_monoQ (fun c a w hq => ?_) (fun h => hlet h) hw
    rcases hq with ⟨h, _⟩ | h
    ·cases h
    ·exact .inr h
  ·exact hlet hw.2
 ·rename_i hwt
  rw [if_neg hwt] at hw
  exact hK _ _ hw
theorem Wl.nilM (h1 : SubH (pickH ws H1 H0 listed) H) (h2 : SubH H1 H) (h : Wm P ops Q K ws H1 H0 M w0 n D fuel listed 0 L H) : Wl P ops (Qm P ops Q K ws H1 H0 M w0 D fuel listed) M w0 n D [] L H := by
 unfold Wl
 exact fun a w hf hs => .inl ⟨rfl, ⟨hs.sub h1, hs.sub h2⟩, h a w hf hs⟩
theorem Wm.split {p : Prop} [Decidable p] {i d : Nat} (hr : (Region.ready .any ops listed).contains i = true) (hi : ops[i]? = some ⟨dst, op, oty, pos, after, g⟩) (hd : gslot ops g = some d) (hv : look L d = some (.bool (decide p)))
  (ht : p → Wm P ops Q K ws H1 H0 M w0 n D fuel listed i ((d, .bool true) :: L) H)
  (hf : ¬p → Wm P ops Q K ws H1 H0 M w0 n D fuel listed i ((d, .bool false) :: L) H) : Wm P ops Q K ws H1 H0 M w0 n D fuel listed i L H := by
 have _ := hd
 have _ := hi
 have _ := hr
 intro a w hfz hs
 by_cases hp : p
 ·exact ht hp a w (hfz.sub' Zd5) hs
 ·exact hf hp a w (hfz.sub' Zd5) hs
theorem Wm.splitB {b : Bool} {i d : Nat} (hr : (Region.ready .any ops listed).contains i = true) (hi : ops[i]? = some ⟨dst, op, oty, pos, after, g⟩) (hd : gslot ops g = some d) (hv : look L d = some (.bool b))
  (ht : b = true → Wm P ops Q K ws H1 H0 M w0 n D fuel listed i ((d, .bool true) :: L) H)
  (hf : b = false → Wm P ops Q K ws H1 H0 M w0 n D fuel listed i ((d, .bool false) :: L) H) : Wm P ops Q K ws H1 H0 M w0 n D fuel listed i L H := by
 have _ := hd
 have _ := hi
 have _ := hr
 intro a w hfz hs
 cases hb : b with
 | true => exact ht hb a w (hfz.sub' Zew) hs
 | false => exact hf hb a w (hfz.sub' Zew) hs
theorem bad_endM {c : List PanicEntry} {HB : List Ent} (h : ∀ w, St M w0 w HB → K c w) : ∀ (a : Act) (w : World), a.defers = D → St M w0 w HB → Qm P ops Q K ws H1 H0 M w0 D fuel listed (.panic c) a w := fun _ w hd hs => .inr ⟨c, rfl, hd, h w hs⟩
end
end Go.PB
namespace Go.PB
open Go.RowKit
section
variable {P : Program} {Z : Exit → Act → World → Prop} {ops : Array Oper} {Q : Exit → Act → World → Prop} {M : List Nat} {w0 : World} {n : Nat} {D : List Deferred} {L L' : List (Nat × Value)} {H H' : List Ent} {rest : List Oper} {k : List Kt}
 {d : Tmp} {dst : Option Tmp} {oty : TypeId} {pos : String} {after : Array Edge} {g : Option (Nat × Bool)}
theorem calls_of_WD {f : FuncId} {fn : Func} {c : Code} {vs : List Value} {w : World} {R : Ending → World → Prop} (hf : P.funcs[f]? = some fn) (hb : fn.body = some c) (hn : fn.ntmps = n) (hl : vs.length ≤ n) (hs : St M w w H)
  (h : W P (bodyPostD P fn R) M w n [] [.inl c] (argL 0 vs) H) : Calls P f vs.toArray w R := by
 refine calls_of_wp_defers hf hb ?_
 unfold W at h
 refine h _ _ ⟨?_, rfl, fun i v hi => ?_⟩ hs
 ·simp; omega
 ·obtain ⟨_, h2⟩ := look_argL hi
  simp only [Nat.sub_zero] at h2
  have hlt := (List.getElem?_eq_some_iff.1 h2).1
  rw [Array.getElem?_append_left (by simpa using hlt)]
  simpa using h2
theorem wl_defer {f : FuncId} {cs : List Value} {fx : Operand} (hg : gdv ops L g = some true) (hfx : evo L fx = some (fnV f [] cs)) (h : Wl P ops Q M w0 n ({ target := .fn (.func f) cs.toArray, args := #[] } :: D) rest L H) :
  Wl P ops Q M w0 n D (⟨none, .defer { callee := .value fx, args := #[], argTypes := #[] }, oty, pos, after, g⟩ :: rest) L H := by
 unfold Wl at h ⊢
 intro a w hf hs
 unfold wpList
 rw [if_pos Zck]
 refine .inl ?_
 unfold Oper.wp
 have hex : (execOp a.eval ⟨none, .defer { callee := .value fx, args := #[], argTypes := #[] }, oty, pos, after, g⟩).run P w = .ok (.defer { target := .fn (.func f) cs.toArray, args := #[] }) w := by
  simp [execOp, resolve, hf.eval hfx, Deferred.ofValue]
 rw [hex]
 refine h _ _ ⟨hf.size, ?_, hf.has⟩ hs
 show _ :: a.defers = _ :: D
 rw [hf.defers]
theorem wl_callBF {f : FuncId} {xs : List Operand} {vs : List Value} {ats : Array TypeId} {c : List PanicEntry} {HB : List Ent} (hg : gdv ops L g = some true)
  (hh : Has P f) (hv : evos L xs = some vs) (hc : ∀ w, St M w0 w H → Calls P f vs.toArray w (BadS c M w0 HB)) (h : ∀ a w, Fz n L D a → St M w0 w HB → Q (.panic c) a w) :
  Wl P ops Q M w0 n D (⟨some d, .call { callee := .value (.func f), args := xs.toArray, argTypes := ats }, oty, pos, after, g⟩ :: rest) L H := by
 unfold Wl
 intro a w hf hs
 unfold wpList
 rw [if_pos Zck]
 refine .inl ?_
 unfold Oper.wp
 rw [run_call (cs := []) hf hh rfl hv]
 rw [List.append_nil]
 refine (hc w hs).mono fun e w' hR => ?_
 obtain ⟨rfl, hx⟩ := hR
 exact h _ _ hf hx
theorem W.endZ (h : ∀ a w, Fz n L D a → St M w0 w H → Z .normal a w) : W P Z M w0 n D [] L H := by
 unfold W
 exact fun a w hf hs => h a w hf hs
theorem leaves_one {fn : Func} {tmps : Array Value} {R : Ending → World → Prop} {f : FuncId} {cs : List Value} {u : FrameMode} {w : World} (hu : u ≠ .run) (hh : Has P f)
  (h : CallsD P f cs.toArray u w fun e u' w' => (∃ v, e = .returned v) ∧ settle u' = .returning ∧ ∃ v, (results fn tmps).run P w' = .ok v w' ∧ R (.returned v) w') :
  Leaves P fn tmps R [{ target := .fn (.func f) cs.toArray, args := #[] }] u w := by
 obtain ⟨fn', c, h1, h2, h3⟩ := hh
 refine leaves_cons (f := f) (args := cs.toArray) hu ?_ (h.mono fun e u' w' hR => ?_)
 ·simp [invoke, run_callFunc h1 h2 h3]
 ·obtain ⟨⟨v, rfl⟩, hs, hr⟩ := hR
  show Leaves P fn tmps R [] (settle u') w'
  rw [hs]
  exact hr
end
end Go.PB
