/- Walks: a tree's nodes put in order. No condition. -/
import Derived.Test.YtbinaeemcidicaaZPE
import Derived.Test.YtbinaeemcidicaaZInv
namespace Go.Proofs.Ytbinaeemcidicaa
open Go.PB Go.RowKit
attribute [local irreducible] Go.Calls
/-- a node of a row, and its kids' block -/
abbrev Nk := Nd × Ow
def ndC (x : Nk) : List Value := [.int .i64 x.1.kd, st x.1.ty, st x.1.tx, .int .i32 x.1.nm, ownV x.1.ks.length x.2, .int .i64 x.1.pl]
def ndsC (l : List Nk) : List Value := l.flatMap ndC
def ndKH (l : List Nk) : List Ent := l.flatMap fun x => ownH 3 x.2
def ndKok (l : List Nk) : Prop := ∀ x ∈ l, ownOk x.1.ks.length 1 (intV x.1.ks) x.2
def spC : Option Int → List Value
  | none => [.int .i64 0, .int .i64 0]
  | some x => [.int .i64 3, .int .i64 x]
theorem ndsC_app (a b : List Nk) : ndsC (a ++ b) = ndsC a ++ ndsC b := by unfold ndsC; rw [List.flatMap_append]
theorem ndsC_cons (x : Nk) (b : List Nk) : ndsC (x :: b) = ndC x ++ ndsC b := by unfold ndsC; rw [List.flatMap_cons]
theorem ndsC_len : ∀ l : List Nk, (ndsC l).length = l.length * 6
  | [] => rfl
  | x :: l => by
    rw [ndsC_cons, List.length_append, ndsC_len l, List.length_cons]
    show 6 + l.length * 6 = _
    omega
theorem ndKH_app (a b : List Nk) : ndKH (a ++ b) = ndKH a ++ ndKH b := by unfold ndKH; rw [List.flatMap_append]
theorem ndKH_cons (x : Nk) (b : List Nk) : ndKH (x :: b) = ownH 3 x.2 ++ ndKH b := by unfold ndKH; rw [List.flatMap_cons]
theorem ndKH_nil : ndKH [] = [] := rfl
theorem own_setN {n sz : Nat} {xs : List Value} {b cap : Nat} {c : Array Value} {i : Nat} {v : Value} (h : ownOk n sz xs (some (b, cap, c))) : ownOk n sz (xs.set i v) (some (b, cap, c.setIfInBounds i v)) := by
  obtain ⟨k1, k2, k3, k4, k5⟩ := h
  dsimp only at k1 k2 k3 k4 k5
  refine ⟨k1, k2, by simpa using k3, ?_, by simpa using k5⟩
  simp only [Array.toList_setIfInBounds]
  rw [← k4, List.take_set]
theorem ndsC_set {N N1 : List Nk} {kd : Int} {ty tx : List UInt8} {nm pl : Int} {ks ks' : List Int} {o o' : Ow} : (ndsC (N ++ (⟨kd, ty, tx, nm, ks, pl⟩, o) :: N1)).set (N.length * 6 + 4) (ownV ks'.length o') = ndsC (N ++ (⟨kd, ty, tx, nm, ks', pl⟩, o') :: N1) := by
  rw [ndsC_app, ndsC_app, ndsC_cons, ndsC_cons, List.set_append_right _ _ (by rw [ndsC_len]; omega), ndsC_len, show N.length * 6 + 4 - N.length * 6 = 4 by omega]
  rfl
theorem ndsC_at {N N1 : List Nk} {kd : Int} {ty tx : List UInt8} {nm pl : Int} {ks : List Int} {o : Ow} : (ndsC (N ++ (⟨kd, ty, tx, nm, ks, pl⟩, o) :: N1))[N.length * 6 + 4]? = some (ownV ks.length o) := by
  rw [ndsC_app, ndsC_cons, List.getElem?_append_right (by rw [ndsC_len]; omega), ndsC_len, show N.length * 6 + 4 - N.length * 6 = 4 by omega]
  rfl
theorem pre_get {l : List Value} {n j : Nat} {v : Value} (h : (l.take n)[j]? = some v) : l.toArray[0 + j]? = some v := by
  rw [List.getElem?_take] at h
  split at h
  · rw [Nat.zero_add]
    simpa using h
  · cases h
/-- what put works on: the tree, the place, put itself; the nodes and their kids -/
abbrev flH (tb sb pb : Nat) (N : List Nk) (o : Ow) (sp : Option Int) (A : List Ent) : List Ent :=
  ⟨tb, true, row [ownV N.length o] 32⟩ :: ⟨sb, true, row (spC sp) 27⟩ :: ⟨pb, true, row [fnV 45 [] [ptr sb, ptr tb, ptr pb]] 75⟩ :: ((A ++ ndKH N) ++ ownH 38 o)
def PutC (t : Tn) : Prop := ∀ {M : List Nat} {w0 w : World} {A : List Ent} {N : List Nk} {o : Ow} {sp : Option Int} {d tb sb pb : Nat}, St M w0 w (flH tb sb pb N o sp A) → (∀ e ∈ tnH t, e ∈ A) → tnOk t → ownOk N.length 6 (ndsC N) o → N.length + cntP (tnP t) ≤ 1500000 → d ≤ 33 →
  Calls Try.prog 45 #[ptr t.b, .int .i64 (d : Nat), ptr sb, ptr tb, ptr pb] w (GivesS (fun _ : List Nk × Ow => .tuple #[]) (fun x => x.1.map Prod.fst = (putP (tnP t) d N.length sp).1 ∧ ownOk (N ++ x.1).length 6 (ndsC (N ++ x.1)) x.2 ∧ ndKok x.1) M w0
    (fun x => flH tb sb pb (N ++ x.1) x.2 (putP (tnP t) d N.length sp).2 A))
theorem agF : Ag Try.prog 75 false := ⟨_, Try.underlying75, rfl⟩
theorem szF : Sz Try.prog 75 1 := by
  unfold Sz
  kernel_rfl
theorem zeroF : Zero Try.prog 75 [.nilFunc] := zero_of (z := .nilFunc) (by kernel_rfl) rfl
theorem own_oneF (n : Nat) (o : Ow) : (ownV n o).oneCell' = true := by cases o <;> rfl
set_option maxRecDepth 100000 in
theorem put_some (t : Tn) {M : List Nat} {w0 w : World} {H : List Ent} {x : Int} {d tb sb pb : Nat} (hst1 : St M w0 w H) (hm : (⟨sb, true, row [.int .i64 3, .int .i64 x] 27⟩ : Ent) ∈ H) :
    Calls Try.prog 45 #[ptr t.b, .int .i64 (d : Nat), ptr sb, ptr tb, ptr pb] w (GivesS (fun _ : Unit => .tuple #[]) (fun _ => True) M w0 fun _ => H) := by
  obtain ⟨b, hb⟩ : ∃ b, t.b = b := ⟨_, rfl⟩
  rw [hb]
  (refine calls_of_W (vs := [ptr b, .int .i64 (d : Nat), ptr sb, ptr tb, ptr pb]) Try.func45 rfl Try.ntmps45 (Nat.le_of_ble_eq_true rfl) hst1.fromHere ?_; simp only [argL])
  repeat' (first | (apply gL; first | (apply Wl.ev rfl rfl; (focus (first | exact ev_move rfl | (apply gLoa; first | exact ev_load (agT rfl) rfl hm rfl) | (apply gFie; first | exact ev_fieldAddr0 (fldT rfl) rfl) | (apply gPic; first | exact ev_pickT rfl rfl | exact ev_pickF rfl rfl) | (apply gBin; first | exact ev_eqi rfl rfl | exact ev_nei rfl rfl | exact ev_gti rfl rfl)))) | apply Wl.nil | (refine Wl.skip rfl rfl ?_) | ((fail_if_success (apply Wl.chk rfl)); refine Wl.split rfl rfl ?_ ?_ <;> (intro h; try (exfalso; first | contradiction | omega | exact h rfl | exact h ⟨rfl, rfl⟩ | (exact Bool.false_ne_true ((by assumption : _ = false).symm.trans h)) | (exact Bool.false_ne_true (h.symm.trans (by assumption))))))) | (apply gQ; first | (apply Wq.ev rfl rfl; (focus (first | exact ev_move rfl | (apply gLoa; first | exact ev_load (agT rfl) rfl hm rfl) | (apply gFie; first | exact ev_fieldAddr0 (fldT rfl) rfl) | (apply gPic; first | exact ev_pickT rfl rfl | exact ev_pickF rfl rfl) | (apply gBin; first | exact ev_eqi rfl rfl | exact ev_nei rfl rfl | exact ev_gti rfl rfl))))) | ((show W _ _ _ _ _ _ _ _ _); first | apply W.seq | apply W.region | apply W.skip | (refine W.condT rfl ?_) | (refine W.condF rfl ?_) | (refine W.ret0 rfl ?_; intro w hs)))
  all_goals first | exact GivesS.of hst1 hs () trivial rfl (by repeat (first | exact SubH.nil | apply SubH.keep | apply SubH.drop | exact List.Sublist.refl _ | exact List.sublist_append_left _ _)) | contradiction | (exfalso; omega) | fail
set_option maxRecDepth 100000 in
theorem put_deep {M : List Nat} {w0 w : World} {H H' : List Ent} {b : Nat} {kd : Int} {ty tx : List UInt8} {nm pl : Int} {kp : Option Addr} {kn kc : Nat} {d tb sb pb : Nat} (hst1 : St M w0 w H) (hd : 32 < d) (hm : (⟨b, true, ndO kd ty tx nm pl (.slice kp kn kc)⟩ : Ent) ∈ H)
    (hu : Upd H sb (row [.int .i64 0, .int .i64 0] 27) (row [.int .i64 3, .int .i64 pl] 27) H') :
    Calls Try.prog 45 #[ptr b, .int .i64 (d : Nat), ptr sb, ptr tb, ptr pb] w (GivesS (fun _ : Unit => .tuple #[]) (fun _ => True) M w0 fun _ => H') := by
  obtain ⟨A, p1, p2⟩ := hu.front
  have hmA : (⟨b, true, ndO kd ty tx nm pl (.slice kp kn kc)⟩ : Ent) ∈ A := mem_frontE p1 hm (fun e => absurd (show 78 = 27 from congrArg objT (congrArg Ent.o e)) (by decide))
  obtain ⟨A', pA⟩ : ∃ A', List.Perm A (⟨b, true, ndO kd ty tx nm pl (.slice kp kn kc)⟩ :: A') := ⟨_, List.perm_cons_erase hmA⟩
  replace hst1 := hst1.perm (p1.trans (pA.cons _))
  (refine calls_of_W (vs := [ptr b, .int .i64 (d : Nat), ptr sb, ptr tb, ptr pb]) Try.func45 rfl Try.ntmps45 (Nat.le_of_ble_eq_true rfl) hst1.fromHere ?_; simp only [argL])
  repeat' (first | (apply gL; first | (apply Wl.ev rfl rfl; (focus (first | exact ev_move rfl | (apply gLoa; first | exact ev_load (agT rfl) rfl (by repeat (first | exact List.Mem.head _ | apply List.Mem.tail)) rfl) | (apply gFie; first | exact ev_fieldAddr0 (fldT rfl) rfl) | exact ev_pickT rfl rfl | (apply gBin; first | exact ev_eqi rfl rfl | exact ev_nei rfl rfl | exact ev_gti rfl rfl) | exact ev_nilCheck_ptr rfl))) | (refine wl_storeWhole rfl rfl rfl (szT rfl) (by repeat (first | rfl | exact own_oneF _ _ | refine all_one_cons ?_ ?_)) (by repeat (first | exact Upd.here | apply Upd.there)) (by rfl) ?_) | (refine wl_store1 rfl rfl rfl (by first | rfl | exact own_oneF _ _) (szT rfl) (by repeat (first | exact Upd.here | apply Upd.there)) (by first | decide | (simp; done)) ?_; try simp only [List.set]) | apply Wl.nil | ((fail_if_success (apply Wl.chk rfl)); refine Wl.split rfl rfl ?_ ?_ <;> (intro h; try (exfalso; first | contradiction | omega | exact h rfl | exact h ⟨rfl, rfl⟩ | (exact Bool.false_ne_true ((by assumption : _ = false).symm.trans h)) | (exact Bool.false_ne_true (h.symm.trans (by assumption))))))) | (apply gQ; first | (apply Wq.ev rfl rfl; (focus (first | exact ev_move rfl | (apply gLoa; first | exact ev_load (agT rfl) rfl (by repeat (first | exact List.Mem.head _ | apply List.Mem.tail)) rfl) | (apply gFie; first | exact ev_fieldAddr0 (fldT rfl) rfl) | exact ev_pickT rfl rfl | (apply gBin; first | exact ev_eqi rfl rfl | exact ev_nei rfl rfl | exact ev_gti rfl rfl) | exact ev_nilCheck_ptr rfl)))) | ((show W _ _ _ _ _ _ _ _ _); first | apply W.seq | (((show W _ _ _ _ _ _ (.inl (.region 1 _ true) :: _) _ _); refine W.regionM [5, 7, 9] [] [⟨b, true, ndO kd ty tx nm pl (.slice kp kn kc)⟩] mixed ?_)) | apply W.region | (refine W.condT rfl ?_) | (refine W.ret0 rfl ?_; intro w hs)) | ((show Wm _ _ _ _ _ _ _ _ _ _ _ _ _ _ _ _); first | ((refine Wm.all (by rfl) (by decide +kernel) ?_)) | (refine Wm.done (by decide +kernel) ?_) | (refine Wm.not (by decide +kernel) ?_) | (refine Wm.skip1 (by kernel_rfl) rfl (by kernel_rfl) (by decide +kernel) (by decide) rfl rfl (by repeat (first | exact SubH.nil | apply SubH.keep | apply SubH.drop | exact List.Sublist.refl _ | exact List.sublist_append_right _ _ | exact List.sublist_append_left _ _)) (by repeat (first | exact SubH.nil | apply SubH.keep | apply SubH.drop | exact List.Sublist.refl _ | exact List.sublist_append_right _ _ | exact List.sublist_append_left _ _)) ?_) | (refine Wm.take1 (by kernel_rfl) rfl (by kernel_rfl) (by decide +kernel) (by decide) rfl rfl (by first | exact ev_move rfl | (apply gLoa; first | exact ev_load (agT rfl) rfl (by repeat (first | exact List.Mem.head _ | apply List.Mem.tail)) rfl) | (apply gFie; first | exact ev_fieldAddr0 (fldT rfl) rfl) | exact ev_pickT rfl rfl | (apply gBin; first | exact ev_eqi rfl rfl | exact ev_nei rfl rfl | exact ev_gti rfl rfl) | exact ev_nilCheck_ptr rfl) (by repeat (first | exact SubH.nil | apply SubH.keep | apply SubH.drop | exact List.Sublist.refl _ | exact List.sublist_append_right _ _ | exact List.sublist_append_left _ _)) (by repeat (first | exact SubH.nil | apply SubH.keep | apply SubH.drop | exact List.Sublist.refl _ | exact List.sublist_append_right _ _ | exact List.sublist_append_left _ _)) ?_) | (refine Wm.take0 (by kernel_rfl) rfl (by kernel_rfl) (by decide +kernel) (by decide +kernel) (by decide) (by decide) rfl rfl (by first | exact ev_move rfl | (apply gLoa; first | exact ev_load (agT rfl) rfl (by repeat (first | exact List.Mem.head _ | apply List.Mem.tail)) rfl) | (apply gFie; first | exact ev_fieldAddr0 (fldT rfl) rfl) | exact ev_pickT rfl rfl | (apply gBin; first | exact ev_eqi rfl rfl | exact ev_nei rfl rfl | exact ev_gti rfl rfl) | exact ev_nilCheck_ptr rfl) (by repeat (first | exact SubH.nil | apply SubH.keep | apply SubH.drop | exact List.Sublist.refl _ | exact List.sublist_append_right _ _ | exact List.sublist_append_left _ _)) (by repeat (first | exact SubH.nil | apply SubH.keep | apply SubH.drop | exact List.Sublist.refl _ | exact List.sublist_append_right _ _ | exact List.sublist_append_left _ _)) ?_) | ((fail_if_success (refine Wm.chk rfl rfl ?_)); (refine Wm.split (by kernel_rfl) rfl rfl rfl ?_ ?_ <;> (intro h; try (exfalso; first | contradiction | omega | exact h rfl | exact h ⟨rfl, rfl⟩ | (exact Bool.false_ne_true ((by assumption : _ = false).symm.trans h)) | (exact Bool.false_ne_true (h.symm.trans (by assumption))))))) | ((fail_if_success (refine Wm.chk rfl rfl ?_)); (refine Wm.splitB (by kernel_rfl) rfl rfl rfl ?_ ?_ <;> (intro h; try (exfalso; first | contradiction | omega | exact h rfl | exact h ⟨rfl, rfl⟩ | (exact Bool.false_ne_true ((by assumption : _ = false).symm.trans h)) | (exact Bool.false_ne_true (h.symm.trans (by assumption))))))) | apply Wm.next) | apply AllO.nil | apply AllO.cons | (refine Or.inl (by decide +kernel)) | ((show _ ∨ Wl _ _ _ _ _ _ _ _ _ _); apply Or.inr) | (refine Wl.nilM (by repeat (first | exact SubH.nil | apply SubH.keep | apply SubH.drop | exact List.Sublist.refl _ | exact List.sublist_append_right _ _ | exact List.sublist_append_left _ _)) (by repeat (first | exact SubH.nil | apply SubH.keep | apply SubH.drop | exact List.Sublist.refl _ | exact List.sublist_append_right _ _ | exact List.sublist_append_left _ _)) ?_))
  all_goals first | exact GivesS.ofC hst1 hs () trivial rfl (by intro e; rw [p2.count_eq]; have hp := pA.count_eq e; simp only [cnt_cons] at hp ⊢; omega) | contradiction | (exfalso; omega) | fail
end Go.Proofs.Ytbinaeemcidicaa
