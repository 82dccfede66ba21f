/- Walks: a token taken, a sign taken, a sign that may stand. No condition. -/
import Derived.Test.YtbinaeemcidicaaZPB
import Derived.Test.YtbinaeemcidicaaZEN
namespace Go.Proofs.Ytbinaeemcidicaa
open Go.PB Go.RowKit
attribute [local irreducible] Go.Calls
/-- which tokens are right: a function value, what it reads -/
def PredE (fv : Value) (p : Ti → Bool) (R : List Ent) : Prop :=
  ∃ f cs, fv = fnV f [] cs ∧ Has Try.prog f ∧ ∀ {M : List Nat} {w0 w : World} {H : List Ent} (t : Ti), St M w0 w H → (∀ e ∈ R, e ∈ H) → Calls Try.prog f ([] ++ [tiV t] ++ cs).toArray w (Give (.bool (p t)) w)
theorem mem_frontE {H A : List Ent} {x p : Ent} (hp : List.Perm H (x :: A)) (h : p ∈ H) (hb : p ≠ x) : p ∈ A := by
  rcases List.mem_cons.1 (hp.subset h) with rfl | h
  · exact absurd rfl hb
  · exact h
theorem drop_lt {α : Type} {L l : List α} {a : Nat} {t : α} (h : L.drop a = t :: l) : a < L.length := by
  by_cases hlt : a < L.length
  · exact hlt
  · rw [List.drop_of_length_le (by omega)] at h
    cases h
theorem drop_next {α : Type} {L l : List α} {a : Nat} {t : α} (h : L.drop a = t :: l) : L.drop (a + 1) = l := by
  rw [← List.drop_drop, h]
  rfl
set_option maxRecDepth 100000 in
theorem take_ok {M : List Nat} {w0 w : World} {H H' TR R : List Ent} {r a : Nat} {lv fv : Value} {L l : List Ti} {p : Ti → Bool} {t : Ti} (hst : St M w0 w H) (hp : PredE fv p R) (hR : ∀ e ∈ R, e ∈ H) (hRr : ∀ e ∈ R, e ≠ ⟨r, true, rdP lv a⟩)
    (hu : Upd H r (rdP lv a) (rdP lv (a + 1)) H') (hT : TokE TR r lv L) (hm : ∀ p ∈ TR, p ∈ H) (hl : L.drop a = t :: l) (ht : p t = true) :
    Calls Try.prog 47 #[ptr r, fv] w (GivesS (fun _ : Unit => tiV t) (fun _ => True) M w0 fun _ => H') := by
  obtain ⟨A, p1, p2⟩ := hu.front
  have hTA : ∀ e ∈ TR, e ∈ A := fun e he => mem_front p1 (hm e he) (hT.2.1 e he)
  have hRA : ∀ e ∈ R, e ∈ A := fun e he => mem_frontE p1 (hR e he) (hRr e he)
  have hlt := drop_lt hl
  have hst1 := hst.perm p1
  obtain ⟨f, cs, rfl, hh, hc⟩ := hp
  have hL := hT.2.2.1
  obtain ⟨q, c, hq⟩ := hT.1.len
  have hpk : ∀ {H : List Ent} (w' : World), St (wrs (⟨r, true, rdP lv a⟩ :: A)) w w' H → (⟨r, true, rdP lv a⟩ : Ent) ∈ H → (∀ p ∈ TR, p ∈ H) → Calls Try.prog 46 #[ptr r, .int .i64 0] w' (Give (tiV t) w') := fun w' hs h1 h2 => by
    have := ppeek_ok hs h1 hT h2 (Nat.le_of_lt hlt) (k := 0) (by omega)
    rw [Nat.add_zero, hl] at this
    exact this
  have hcc : ∀ {H : List Ent} (w' : World), St (wrs (⟨r, true, rdP lv a⟩ :: A)) w w' H → (∀ p ∈ R, p ∈ H) → Calls Try.prog f ([] ++ [tiV t] ++ cs).toArray w' (Give (.bool true) w') := fun w' hs h2 => by
    have := hc t hs h2
    rw [ht] at this
    exact this
  refine calls_of_W (vs := [ptr r, fnV f [] cs]) Try.func47 rfl Try.ntmps47 (Nat.le_of_ble_eq_true rfl) hst1.fromHere ?_
  simp only [argL]
  obtain ⟨k, tx, x, at_, n⟩ := t
  subst hq
  replace p2 : List.Perm H' (⟨r, true, row [.slice q L.length c, .int .i64 ((a : Int) + 1)] 60⟩ :: A) := p2
  repeat' (first | (apply gL; first | (apply Wl.ev rfl rfl; (focus (first | exact ev_move rfl | (apply gLoa; first | exact ev_load (agT rfl) rfl (by repeat (first | exact List.Mem.head _ | apply List.Mem.tail)) rfl | exact ev_loadWhole (agT rfl) (szT rfl) rfl (by repeat (first | exact List.Mem.head _ | apply List.Mem.tail)) rfl) | (apply gFie; first | exact ev_fieldAddr0 (fldT rfl) rfl) | exact ev_pickF rfl rfl | (apply gBin; first | exact ev_eqi rfl rfl | exact ev_add64 rfl rfl (by omega)) | exact ev_notT rfl | (apply gCal; first | exact ev_len_slice (slT rfl) rfl) | exact ev_nilCheck_ptr rfl))) | (refine wl_storeWhole rfl rfl rfl (szT rfl) (by repeat (first | rfl | refine all_one_cons ?_ ?_)) (by repeat (first | exact Upd.here | apply Upd.there)) (by rfl) ?_) | ((show Wl _ _ _ _ _ _ _ (⟨_, .call ⟨.value (.func 46), _, _⟩, _, _, _, _⟩ :: _) _ _); refine wl_call0 rfl rfl has46 rfl (fun w hs => hpk w hs (by repeat (first | exact List.Mem.head _ | apply List.Mem.tail)) (by intro p hp; repeat (first | exact hTA p hp | apply List.Mem.tail))) ?_) | apply Wl.nil | (refine wl_alloc rfl rfl (zeroT rfl) ?_; intro b) | (refine wl_store1 rfl rfl rfl rfl (szT rfl) (by repeat (first | exact Upd.here | apply Upd.there)) (by first | decide | (simp; done)) ?_; try simp only [List.set])) | (apply gQ; first | (apply Wq.ev rfl rfl; (focus (first | exact ev_move rfl | (apply gLoa; first | exact ev_load (agT rfl) rfl (by repeat (first | exact List.Mem.head _ | apply List.Mem.tail)) rfl | exact ev_loadWhole (agT rfl) (szT rfl) rfl (by repeat (first | exact List.Mem.head _ | apply List.Mem.tail)) rfl) | (apply gFie; first | exact ev_fieldAddr0 (fldT rfl) rfl) | exact ev_pickF rfl rfl | (apply gBin; first | exact ev_eqi rfl rfl | exact ev_add64 rfl rfl (by omega)) | exact ev_notT rfl | (apply gCal; first | exact ev_len_slice (slT rfl) rfl) | exact ev_nilCheck_ptr rfl))) | ((show Wq _ _ _ _ _ _ _ (⟨_, .call ⟨.value _, _, _⟩, _, _, _, _⟩ :: _) _ _); refine Wq.callF rfl rfl hh rfl rfl (fun w hs => hcc w hs (by intro p hp; repeat (first | exact hRA p hp | apply List.Mem.tail))) ?_) | apply Wq.nil | ((fail_if_success (apply Wq.chk rfl)); refine Wq.split rfl rfl ?_ ?_ <;> (intro h; try (exfalso; first | contradiction | omega | exact h rfl | exact h ⟨rfl, rfl⟩ | (simp_all; done))))) | ((show W _ _ _ _ _ _ _ _ _); first | apply W.seq | (refine W.regionQ mixed (by kernel_rfl) ?_) | apply W.region | apply W.skip | (refine W.condF rfl ?_) | (refine W.retc rfl rfl (agT rfl) (by repeat (first | exact List.Mem.head _ | apply List.Mem.tail)) (szT rfl) ?_; intro w hs)))
  all_goals first | exact GivesS.ofC hst1 hs () trivial rfl (by intro e; rw [p2.count_eq]; simp only [cnt_cons]; omega) | (exfalso; omega) | fail
set_option maxRecDepth 100000 in
theorem take_bad {M : List Nat} {w0 w : World} {H TR R : List Ent} {r a : Nat} {lv fv : Value} {L : List Ti} {p : Ti → Bool} (hst : St M w0 w H) (hp : PredE fv p R) (hR : ∀ e ∈ R, e ∈ H) 
    (hr : (⟨r, true, rdP lv a⟩ : Ent) ∈ H) (hT : TokE TR r lv L) (hm : ∀ p ∈ TR, p ∈ H) (ha : a ≤ L.length) (ht : a < L.length → p ((L.drop a).headD ti0) = false) :
    Calls Try.prog 47 #[ptr r, fv] w (BadS wrongC M w0 H) := by
  have hTA := hm
  have hRA := hR
  obtain ⟨f, cs, rfl, hh, hc⟩ := hp
  have hL := hT.2.2.1
  obtain ⟨q, c, hq⟩ := hT.1.len
  obtain ⟨t, htt⟩ : ∃ t, (L.drop a).headD ti0 = t := ⟨_, rfl⟩
  rw [htt] at ht
  have hpk : ∀ {H1 : List Ent} (w' : World), St (wrs H) w w' H1 → (⟨r, true, rdP lv a⟩ : Ent) ∈ H1 → (∀ p ∈ TR, p ∈ H1) → Calls Try.prog 46 #[ptr r, .int .i64 0] w' (Give (tiV t) w') := fun w' hs h1 h2 => by
    have := ppeek_ok hs h1 hT h2 ha (k := 0) (by omega)
    rw [Nat.add_zero, htt] at this
    exact this
  have hcc : ∀ {H1 : List Ent} (w' : World), a < L.length → St (wrs H) w w' H1 → (∀ p ∈ R, p ∈ H1) → Calls Try.prog f ([] ++ [tiV t] ++ cs).toArray w' (Give (.bool false) w') := fun w' h1 hs h2 => by
    have := hc t hs h2
    rw [ht h1] at this
    exact this
  refine calls_of_W (vs := [ptr r, fnV f [] cs]) Try.func47 rfl Try.ntmps47 (Nat.le_of_ble_eq_true rfl) hst.fromHere ?_
  simp only [argL]
  obtain ⟨k, tx, x, at_, n⟩ := t
  subst hq
  by_cases hlt : a < L.length
  · have hcd : ∀ {H1 : List Ent} (w' : World), St (wrs H) w w' H1 → (∀ p ∈ R, p ∈ H1) → _ := fun {H1} w' hs h2 => hcc (H1 := H1) w' hlt hs h2
    repeat' (first | (apply gL; first | (apply Wl.ev rfl rfl; (focus (first | exact ev_move rfl | (apply gLoa; first | exact ev_load (agT rfl) rfl (by repeat (first | exact hr | apply List.Mem.tail)) rfl | exact ev_loadWhole (agT rfl) (szT rfl) rfl (by repeat (first | exact List.Mem.head _ | apply List.Mem.tail)) rfl) | (apply gFie; first | exact ev_fieldAddr0 (fldT rfl) rfl) | exact ev_pickF rfl rfl | exact ev_eqi rfl rfl | exact ev_notF rfl | (apply gBui; first | (apply ev_build (bldT rfl) rfl; simp [fillP]; rfl)) | (apply gCal; first | exact ev_len_slice (slT rfl) rfl) | exact ev_nilCheck_ptr rfl | exact ev_iface (show Program.underlying _ 90 = some _ from rfl) (by intro ms e; cases e) rfl))) | (refine wl_storeWhole rfl rfl rfl (szT rfl) (by repeat (first | rfl | refine all_one_cons ?_ ?_)) (by repeat (first | exact Upd.here | apply Upd.there)) (by rfl) ?_) | (refine wl_panic rfl rfl (bad_end ?_); intro w hs) | ((show Wl _ _ _ _ _ _ _ (⟨_, .call ⟨.value (.func 46), _, _⟩, _, _, _, _⟩ :: _) _ _); refine wl_call0 rfl rfl has46 rfl (fun w hs => hpk w hs (by repeat (first | exact hr | apply List.Mem.tail)) (by intro p hp; repeat (first | exact hTA p hp | apply List.Mem.tail))) ?_) | apply Wl.nil | (refine wl_alloc rfl rfl (zeroT rfl) ?_; intro b)) | (apply gQ; first | (apply Wq.ev rfl rfl; (focus (first | exact ev_move rfl | (apply gLoa; first | exact ev_load (agT rfl) rfl (by repeat (first | exact hr | apply List.Mem.tail)) rfl | exact ev_loadWhole (agT rfl) (szT rfl) rfl (by repeat (first | exact List.Mem.head _ | apply List.Mem.tail)) rfl) | (apply gFie; first | exact ev_fieldAddr0 (fldT rfl) rfl) | exact ev_pickF rfl rfl | exact ev_eqi rfl rfl | exact ev_notF rfl | (apply gBui; first | (apply ev_build (bldT rfl) rfl; simp [fillP]; rfl)) | (apply gCal; first | exact ev_len_slice (slT rfl) rfl) | exact ev_nilCheck_ptr rfl | exact ev_iface (show Program.underlying _ 90 = some _ from rfl) (by intro ms e; cases e) rfl))) | ((show Wq _ _ _ _ _ _ _ (⟨_, .call ⟨.value _, _, _⟩, _, _, _, _⟩ :: _) _ _); refine Wq.callF rfl rfl hh rfl rfl (fun w hs => hcd w hs (by intro p hp; repeat (first | exact hRA p hp | apply List.Mem.tail))) ?_) | apply Wq.nil | ((fail_if_success (apply Wq.chk rfl)); refine Wq.split rfl rfl ?_ ?_ <;> (intro h; try (exfalso; first | contradiction | omega | exact h rfl | exact h ⟨rfl, rfl⟩ | (simp_all; done))))) | ((show W _ _ _ _ _ _ _ _ _); first | apply W.seq | (refine W.regionQ mixed (by kernel_rfl) ?_) | apply W.region | (refine W.condT rfl ?_)))
    all_goals first | exact BadS.of hst hs (by repeat (first | exact SubH.nil | apply SubH.keep | apply SubH.drop | exact List.Sublist.refl _ | exact List.sublist_append_left _ _)) | (exfalso; omega) | fail
  · repeat' (first | (apply gL; first | (apply Wl.ev rfl rfl; (focus (first | exact ev_move rfl | (apply gLoa; first | exact ev_load (agT rfl) rfl (by repeat (first | exact hr | apply List.Mem.tail)) rfl) | (apply gFie; first | exact ev_fieldAddr0 (fldT rfl) rfl) | exact ev_pickT rfl rfl | exact ev_eqi rfl rfl | (apply gBui; first | (apply ev_build (bldT rfl) rfl; simp [fillP]; rfl)) | (apply gCal; first | exact ev_len_slice (slT rfl) rfl) | exact ev_nilCheck_ptr rfl | exact ev_iface (show Program.underlying _ 90 = some _ from rfl) (by intro ms e; cases e) rfl))) | (refine wl_storeWhole rfl rfl rfl (szT rfl) (by repeat (first | rfl | refine all_one_cons ?_ ?_)) (by repeat (first | exact Upd.here | apply Upd.there)) (by rfl) ?_) | (refine wl_panic rfl rfl (bad_end ?_); intro w hs) | ((show Wl _ _ _ _ _ _ _ (⟨_, .call ⟨.value (.func 46), _, _⟩, _, _, _, _⟩ :: _) _ _); refine wl_call0 rfl rfl has46 rfl (fun w hs => hpk w hs (by repeat (first | exact hr | apply List.Mem.tail)) (by intro p hp; repeat (first | exact hTA p hp | apply List.Mem.tail))) ?_) | apply Wl.nil | (refine wl_alloc rfl rfl (zeroT rfl) ?_; intro b)) | (apply gQ; first | (apply Wq.ev rfl rfl; (focus (first | exact ev_move rfl | (apply gLoa; first | exact ev_load (agT rfl) rfl (by repeat (first | exact hr | apply List.Mem.tail)) rfl) | (apply gFie; first | exact ev_fieldAddr0 (fldT rfl) rfl) | exact ev_pickT rfl rfl | exact ev_eqi rfl rfl | (apply gBui; first | (apply ev_build (bldT rfl) rfl; simp [fillP]; rfl)) | (apply gCal; first | exact ev_len_slice (slT rfl) rfl) | exact ev_nilCheck_ptr rfl | exact ev_iface (show Program.underlying _ 90 = some _ from rfl) (by intro ms e; cases e) rfl))) | apply Wq.nil | (refine Wq.skip rfl rfl ?_) | ((fail_if_success (apply Wq.chk rfl)); refine Wq.split rfl rfl ?_ ?_ <;> (intro h; try (exfalso; first | contradiction | omega | exact h rfl | exact h ⟨rfl, rfl⟩ | (simp_all; done))))) | ((show W _ _ _ _ _ _ _ _ _); first | apply W.seq | (refine W.regionQ mixed (by kernel_rfl) ?_) | apply W.region | (refine W.condT rfl ?_)))
    all_goals first | exact BadS.of hst hs (by repeat (first | exact SubH.nil | apply SubH.keep | apply SubH.drop | exact List.Sublist.refl _ | exact List.sublist_append_left _ _)) | (exfalso; omega) | fail
end Go.Proofs.Ytbinaeemcidicaa
namespace Go.Proofs.Ytbinaeemcidicaa
open Go.PB Go.RowKit
attribute [local irreducible] Go.Calls
theorem rdx_row {R : List Ent} {b : Nat} {wr : Bool} {l : List Value} {e : TypeId} {n : Nat} {xs : List Value} (hm : (⟨b, wr, row l e⟩ : Ent) ∈ R) (hx : xs = l) : RdX R (.slice (some ⟨b, 0, none⟩) n n) n xs :=
  .inr ⟨b, 0, n, l.toArray, e, (0, 0), wr, rfl, hm, Nat.le_refl _, fun j u hu => by rw [Nat.zero_add, ← hx]; simpa using hu⟩
set_option maxRecDepth 100000 in
theorem sgn_ok {M : List Nat} {w0 w : World} {H : List Ent} {b : Nat} {wr : Bool} (s : List UInt8) (t : Ti) (hst : St M w0 w H) (hb : (⟨b, wr, row [st s] 9⟩ : Ent) ∈ H) :
    Calls Try.prog 78 #[tiV t, ptr b] w (Give (.bool (isA [s] t)) w) := by
  have hr := mem_ro hb
  refine give_of_W (vs := [tiV t, ptr b]) Try.func78 rfl Try.ntmps78 (Nat.le_of_ble_eq_true rfl) hst.reads ?_
  simp only [argL]
  have hi : ∀ {H : List Ent} (q : Nat) (w' : World), St [] w w' H → (⟨q, true, row [st s] 9⟩ : Ent) ∈ H → Calls Try.prog 50 #[tiV t, .slice (some ⟨q, 0, none⟩) 1 1] w' (Give (.bool (isA [s] t)) w') := fun q w' hs hm => isl_ok (l := [s]) hs (rdx_row hm rfl) (show 1 ≤ 1000000 by decide)
  obtain ⟨k, tx, x, a, n⟩ := t
  dsimp only [tiV, tiC] at hi ⊢
  repeat' (first | (apply gL; first | (apply Wl.ev rfl rfl; (focus (first | (apply gLoa; first | exact ev_load (agT rfl) rfl (by repeat (first | exact hr | apply List.Mem.tail)) rfl | exact ev_loadWhole (agT rfl) (szT rfl) rfl (by repeat (first | exact List.Mem.head _ | apply List.Mem.tail)) rfl) | exact ev_assign rfl))) | ((show Wl _ _ _ _ _ _ _ (⟨some _, .box _ _, _, _, _, _⟩ :: _) _ _); refine wl_box rfl rfl rfl rfl ?_; intro bt) | ((show Wl _ _ _ _ _ _ _ (⟨_, .call ⟨.value (.func 50), _, _⟩, _, _, _, _⟩ :: _) _ _); refine wl_call0 rfl rfl has50 rfl (fun w hs => hi _ w hs (by repeat (first | exact List.Mem.head _ | apply List.Mem.tail))) ?_) | apply Wl.nil | (apply wl_buildSlice rfl rfl (slT rfl) (szT rfl) (zeroT rfl) rfl (by decide) rfl; (focus (simp [fillP, List.range_succ]; rfl)); intro b)) | (apply gQ; first | (apply Wq.ev rfl rfl; (focus (first | (apply gLoa; first | exact ev_load (agT rfl) rfl (by repeat (first | exact hr | apply List.Mem.tail)) rfl | exact ev_loadWhole (agT rfl) (szT rfl) rfl (by repeat (first | exact List.Mem.head _ | apply List.Mem.tail)) rfl) | exact ev_assign rfl)))) | ((show W _ _ _ _ _ _ _ _ _); first | apply W.seq | apply W.region | (refine W.ret1 rfl rfl ?_; intro w hs)))
  all_goals first | exact ret_eq hs rfl | fail
theorem sgn_pred (s : List UInt8) (b : Nat) : PredE (fnV 78 [] [ptr b]) (isA [s]) [⟨b, true, row [st s] 9⟩] :=
  ⟨_, _, rfl, has78, fun t hst hm => sgn_ok s t hst (hm _ (List.Mem.head _))⟩
set_option maxRecDepth 100000 in
theorem psign_ok {M : List Nat} {w0 w : World} {H H' TR : List Ent} {r a : Nat} {lv : Value} {L l : List Ti} {s : List UInt8} {t : Ti} (hst : St M w0 w H)
    (hu : Upd H r (rdP lv a) (rdP lv (a + 1)) H') (hT : TokE TR r lv L) (hm : ∀ p ∈ TR, p ∈ H) (hl : L.drop a = t :: l) (ht : isA [s] t = true) :
    Calls Try.prog 62 #[ptr r, st s] w (GivesS (fun _ : Unit => tiV t) (fun _ => True) M w0 fun _ => H') := by
  obtain ⟨A, p1, p2⟩ := hu.front
  have hTA : ∀ e ∈ TR, e ∈ A := fun e he => mem_front p1 (hm e he) (hT.2.1 e he)
  have hst1 := hst.perm p1
  refine calls_of_W (vs := [ptr r, st s]) Try.func62 rfl Try.ntmps62 (Nat.le_of_ble_eq_true rfl) hst1.fromHere ?_
  simp only [argL]
  have hk : ∀ {M : List Nat} {w0 : World} {H H' : List Ent} (b : Nat) (w' : World), St M w0 w' H → Upd H r (rdP lv a) (rdP lv (a + 1)) H' → (∀ p ∈ TR, p ∈ H) → (⟨b, true, row [st s] 9⟩ : Ent) ∈ H → Calls Try.prog 47 #[ptr r, fnV 78 [] [ptr b]] w' (GivesS (fun _ : Unit => tiV t) (fun _ => True) M w0 fun _ => H') :=
    fun b w' hs hu' hm' hb => take_ok hs (sgn_pred s b) (fun e he => by rw [List.mem_singleton.1 he]; exact hb) (fun e he => by rw [List.mem_singleton.1 he]; intro e; cases e) hu' hT hm' hl ht
  obtain ⟨k, tx, x, a1, n⟩ := t
  repeat' (first | (apply gL; first | (apply Wl.ev rfl rfl; (focus (first | exact ev_move rfl | exact ev_makeFunc2 rfl rfl))) | (refine wl_storeWhole rfl rfl rfl (szT rfl) (by repeat (first | rfl | refine all_one_cons ?_ ?_)) (by repeat (first | exact Upd.here | apply Upd.there)) (by rfl) ?_) | ((show Wl _ _ _ _ _ _ _ (⟨_, .call ⟨.value (.func 47), _, _⟩, _, _, _, _⟩ :: _) _ _); refine wl_callS rfl rfl has47 rfl (fun w hs => hk _ w hs (by repeat (first | exact Upd.here | apply Upd.there)) (by intro p hp; repeat (first | exact hTA p hp | apply List.Mem.tail)) (by repeat (first | exact List.Mem.head _ | apply List.Mem.tail))) ?_; intro q hq; clear hq) | apply Wl.nil | (refine wl_box rfl rfl rfl rfl ?_; intro b) | (refine wl_alloc rfl rfl (zeroT rfl) ?_; intro b)) | (apply gQ; first | (apply Wq.ev rfl rfl; (focus (first | exact ev_move rfl | exact ev_makeFunc2 rfl rfl)))) | ((show W _ _ _ _ _ _ _ _ _); first | apply W.seq | apply W.region | (refine W.retc rfl rfl (agT rfl) (by repeat (first | exact List.Mem.head _ | apply List.Mem.tail)) (szT rfl) ?_; intro w hs)))
  all_goals first | exact GivesS.ofC hst1 hs () trivial rfl (by intro e; rw [p2.count_eq]; simp only [cnt_cons]; omega) | (exfalso; omega) | fail
set_option maxRecDepth 100000 in
theorem psign_bad {M : List Nat} {w0 w : World} {H TR : List Ent} {r a : Nat} {lv : Value} {L : List Ti} {s : List UInt8} (hst : St M w0 w H)
    (hr : (⟨r, true, rdP lv a⟩ : Ent) ∈ H) (hT : TokE TR r lv L) (hm : ∀ p ∈ TR, p ∈ H) (ha : a ≤ L.length) (ht : a < L.length → isA [s] ((L.drop a).headD ti0) = false) :
    Calls Try.prog 62 #[ptr r, st s] w (BadS wrongC M w0 H) := by
  have hTA := hm
  refine calls_of_W (vs := [ptr r, st s]) Try.func62 rfl Try.ntmps62 (Nat.le_of_ble_eq_true rfl) hst.fromHere ?_
  simp only [argL]
  have hk : ∀ {M : List Nat} {w0 : World} {H : List Ent} (b : Nat) (w' : World), St M w0 w' H → (⟨r, true, rdP lv a⟩ : Ent) ∈ H → (∀ p ∈ TR, p ∈ H) → (⟨b, true, row [st s] 9⟩ : Ent) ∈ H → Calls Try.prog 47 #[ptr r, fnV 78 [] [ptr b]] w' (BadS wrongC M w0 H) :=
    fun b w' hs hr' hm' hb => take_bad hs (sgn_pred s b) (fun e he => by rw [List.mem_singleton.1 he]; exact hb) hr' hT hm' ha ht
  repeat' (first | (apply gL; first | (apply Wl.ev rfl rfl; (focus (first | exact ev_move rfl | exact ev_makeFunc2 rfl rfl))) | ((show Wl _ _ _ _ _ _ _ (⟨_, .call ⟨.value (.func 47), _, _⟩, _, _, _, _⟩ :: _) _ _); refine wl_callB0 rfl has47 rfl (fun w hs => hk _ w hs (by repeat (first | exact hr | apply List.Mem.tail)) (by intro p hp; repeat (first | exact hTA p hp | apply List.Mem.tail)) (by repeat (first | exact List.Mem.head _ | apply List.Mem.tail))) (bad_end ?_); intro w hs) | apply Wl.nil | (refine wl_box rfl rfl rfl rfl ?_; intro b) | (refine wl_alloc rfl rfl (zeroT rfl) ?_; intro b)) | (apply gQ; first | (apply Wq.ev rfl rfl; (focus (first | exact ev_move rfl | exact ev_makeFunc2 rfl rfl)))) | ((show W _ _ _ _ _ _ _ _ _); first | apply W.seq | apply W.region))
  all_goals first | exact BadS.of hst hs (by repeat (first | exact SubH.nil | apply SubH.keep | apply SubH.drop | exact List.Sublist.refl _ | exact List.sublist_append_left _ _)) | (exfalso; omega) | fail
abbrev mayV (t : Ti) (b : Bool) : Value := .tuple #[tiV t, .bool b]
set_option maxRecDepth 100000 in
theorem maybe_yes {M : List Nat} {w0 w : World} {H H' TR R : List Ent} {r a : Nat} {lv v : Value} {L l : List Ti} {s : List (List UInt8)} {t : Ti} (hst : St M w0 w H) (hv : RdX R v s.length (strV s)) (hs1 : s.length ≤ 1000000) (hR : ∀ e ∈ R, e ∈ H) (hRr : ∀ e ∈ R, e ≠ ⟨r, true, rdP lv a⟩)
    (hu : Upd H r (rdP lv a) (rdP lv (a + 1)) H') (hT : TokE TR r lv L) (hm : ∀ p ∈ TR, p ∈ H) (hl : L.drop a = t :: l) (ht : isA s t = true) :
    Calls Try.prog 66 #[ptr r, v] w (GivesS (fun _ : Unit => mayV t true) (fun _ => True) M w0 fun _ => H') := by
  obtain ⟨A, p1, p2⟩ := hu.front
  have hTA : ∀ e ∈ TR, e ∈ A := fun e he => mem_front p1 (hm e he) (hT.2.1 e he)
  have hRA : ∀ e ∈ R, e ∈ A := fun e he => mem_frontE p1 (hR e he) (hRr e he)
  have hlt := drop_lt hl
  have hst1 := hst.perm p1
  have hL := hT.2.2.1
  have hpk : ∀ {H : List Ent} (w' : World), St (wrs (⟨r, true, rdP lv a⟩ :: A)) w w' H → (⟨r, true, rdP lv a⟩ : Ent) ∈ H → (∀ p ∈ TR, p ∈ H) → Calls Try.prog 46 #[ptr r, .int .i64 0] w' (Give (tiV t) w') := fun w' hs h1 h2 => by
    have := ppeek_ok hs h1 hT h2 (Nat.le_of_lt hlt) (k := 0) (by omega)
    rw [Nat.add_zero, hl] at this
    exact this
  have hi : ∀ {H : List Ent} (w' : World), St (wrs (⟨r, true, rdP lv a⟩ :: A)) w w' H → (∀ p ∈ R, p ∈ H) → Calls Try.prog 50 #[tiV t, v] w' (Give (.bool true) w') := fun w' hs h2 => by
    have := isl_ok (t := t) hs (hv.mono h2) hs1
    rw [ht] at this
    exact this
  replace p2 : List.Perm H' (⟨r, true, row [lv, .int .i64 ((a : Int) + 1)] 60⟩ :: A) := p2
  refine calls_of_W (vs := [ptr r, v]) Try.func66 rfl Try.ntmps66 (Nat.le_of_ble_eq_true rfl) hst1.fromHere ?_
  simp only [argL]
  obtain ⟨k, tx, x, a1, n⟩ := t
  repeat' (first | (apply gL; first | (apply Wl.ev rfl rfl; (focus (first | exact ev_move rfl | (apply gLoa; first | exact ev_load (agT rfl) rfl (by repeat (first | exact List.Mem.head _ | apply List.Mem.tail)) rfl | exact ev_loadWhole (agT rfl) (szT rfl) rfl (by repeat (first | exact List.Mem.head _ | apply List.Mem.tail)) rfl) | (apply gFie; first | exact ev_fieldAddr0 (fldT rfl) rfl) | exact ev_assign rfl | (apply gBin; first | exact ev_add64 rfl rfl (by omega)) | exact ev_notT rfl | exact ev_nilCheck_ptr rfl))) | (refine wl_storeWhole rfl rfl rfl (szT rfl) (by repeat (first | rfl | refine all_one_cons ?_ ?_)) (by repeat (first | exact Upd.here | apply Upd.there)) (by rfl) ?_) | ((show Wl _ _ _ _ _ _ _ (⟨_, .call ⟨.value (.func 46), _, _⟩, _, _, _, _⟩ :: _) _ _); refine wl_call0 rfl rfl has46 rfl (fun w hs => hpk w hs (by repeat (first | exact List.Mem.head _ | apply List.Mem.tail)) (by intro p hp; repeat (first | exact hTA p hp | apply List.Mem.tail))) ?_) | ((show Wl _ _ _ _ _ _ _ (⟨_, .call ⟨.value (.func 50), _, _⟩, _, _, _, _⟩ :: _) _ _); refine wl_call0 rfl rfl has50 rfl (fun w hs => hi w hs (by intro p hp; repeat (first | exact hRA p hp | apply List.Mem.tail))) ?_) | apply Wl.nil | (refine wl_alloc rfl rfl (zeroT rfl) ?_; intro b) | (refine wl_store1 rfl rfl rfl rfl (szT rfl) (by repeat (first | exact Upd.here | apply Upd.there)) (by first | decide | (simp; done)) ?_; try simp only [List.set])) | (apply gQ; first | (apply Wq.ev rfl rfl; (focus (first | exact ev_move rfl | (apply gLoa; first | exact ev_load (agT rfl) rfl (by repeat (first | exact List.Mem.head _ | apply List.Mem.tail)) rfl | exact ev_loadWhole (agT rfl) (szT rfl) rfl (by repeat (first | exact List.Mem.head _ | apply List.Mem.tail)) rfl) | (apply gFie; first | exact ev_fieldAddr0 (fldT rfl) rfl) | exact ev_assign rfl | (apply gBin; first | exact ev_add64 rfl rfl (by omega)) | exact ev_notT rfl | exact ev_nilCheck_ptr rfl)))) | ((show W _ _ _ _ _ _ _ _ _); first | apply W.seq | apply W.region | apply W.skip | (refine W.condF rfl ?_) | (refine W.retct rfl rfl (agT rfl) (by repeat (first | exact List.Mem.head _ | apply List.Mem.tail)) (szT rfl) rfl ?_; intro w hs)))
  all_goals first | exact GivesS.ofC hst1 hs () trivial rfl (by intro e; rw [p2.count_eq]; simp only [cnt_cons]; omega) | (exfalso; omega) | fail
set_option maxRecDepth 100000 in
theorem maybe_no {M : List Nat} {w0 w : World} {H TR R : List Ent} {r a : Nat} {lv v : Value} {L : List Ti} {s : List (List UInt8)} (hst : St M w0 w H) (hv : RdX R v s.length (strV s)) (hs1 : s.length ≤ 1000000) (hR : ∀ e ∈ R, e ∈ H)
    (hr : (⟨r, true, rdP lv a⟩ : Ent) ∈ H) (hT : TokE TR r lv L) (hm : ∀ p ∈ TR, p ∈ H) (ha : a ≤ L.length) (ht : isA s ((L.drop a).headD ti0) = false) :
    Calls Try.prog 66 #[ptr r, v] w (GivesS (fun _ : Unit => mayV ti0 false) (fun _ => True) M w0 fun _ => H) := by
  have hTA := hm
  have hRA := hR
  obtain ⟨t, htt⟩ : ∃ t, (L.drop a).headD ti0 = t := ⟨_, rfl⟩
  rw [htt] at ht
  have hpk : ∀ {H1 : List Ent} (w' : World), St (wrs H) w w' H1 → (⟨r, true, rdP lv a⟩ : Ent) ∈ H1 → (∀ p ∈ TR, p ∈ H1) → Calls Try.prog 46 #[ptr r, .int .i64 0] w' (Give (tiV t) w') := fun w' hs h1 h2 => by
    have := ppeek_ok hs h1 hT h2 ha (k := 0) (by omega)
    rw [Nat.add_zero, htt] at this
    exact this
  have hi : ∀ {H1 : List Ent} (w' : World), St (wrs H) w w' H1 → (∀ p ∈ R, p ∈ H1) → Calls Try.prog 50 #[tiV t, v] w' (Give (.bool false) w') := fun w' hs h2 => by
    have := isl_ok (t := t) hs (hv.mono h2) hs1
    rw [ht] at this
    exact this
  refine calls_of_W (vs := [ptr r, v]) Try.func66 rfl Try.ntmps66 (Nat.le_of_ble_eq_true rfl) hst.fromHere ?_
  simp only [argL]
  obtain ⟨k, tx, x, a1, n⟩ := t
  repeat' (first | (apply gL; first | (apply Wl.ev rfl rfl; (focus (first | exact ev_move rfl | (apply gLoa; first | exact ev_loadWhole (agT rfl) (szT rfl) rfl (by repeat (first | exact List.Mem.head _ | apply List.Mem.tail)) rfl) | exact ev_assign rfl | exact ev_notF rfl | (apply gBui; first | (apply ev_build (bldT rfl) rfl; simp [fillP]; rfl))))) | (refine wl_storeWhole rfl rfl rfl (szT rfl) (by repeat (first | rfl | refine all_one_cons ?_ ?_)) (by repeat (first | exact Upd.here | apply Upd.there)) (by rfl) ?_) | ((show Wl _ _ _ _ _ _ _ (⟨_, .call ⟨.value (.func 46), _, _⟩, _, _, _, _⟩ :: _) _ _); refine wl_call0 rfl rfl has46 rfl (fun w hs => hpk w hs (by repeat (first | exact hr | apply List.Mem.tail)) (by intro p hp; repeat (first | exact hTA p hp | apply List.Mem.tail))) ?_) | ((show Wl _ _ _ _ _ _ _ (⟨_, .call ⟨.value (.func 50), _, _⟩, _, _, _, _⟩ :: _) _ _); refine wl_call0 rfl rfl has50 rfl (fun w hs => hi w hs (by intro p hp; repeat (first | exact hRA p hp | apply List.Mem.tail))) ?_) | apply Wl.nil | (refine wl_alloc rfl rfl (zeroT rfl) ?_; intro b)) | (apply gQ; first | (apply Wq.ev rfl rfl; (focus (first | exact ev_move rfl | (apply gLoa; first | exact ev_loadWhole (agT rfl) (szT rfl) rfl (by repeat (first | exact List.Mem.head _ | apply List.Mem.tail)) rfl) | exact ev_assign rfl | exact ev_notF rfl | (apply gBui; first | (apply ev_build (bldT rfl) rfl; simp [fillP]; rfl)))))) | ((show W _ _ _ _ _ _ _ _ _); first | apply W.seq | apply W.region | (refine W.condT rfl ?_) | (refine W.retct rfl rfl (agT rfl) (by repeat (first | exact List.Mem.head _ | apply List.Mem.tail)) (szT rfl) rfl ?_; intro w hs)))
  all_goals first | exact GivesS.of hst hs () trivial rfl (by repeat (first | exact SubH.nil | apply SubH.keep | apply SubH.drop | exact List.Sublist.refl _ | exact List.sublist_append_left _ _)) | (exfalso; omega) | fail
set_option maxRecDepth 100000 in
theorem made_ok (kd : Int) (t : Ti) (tx : List UInt8) (p : Option Addr) (n c : Nat) (w : World) :
    Calls Try.prog 61 #[.int .i64 kd, tiV t, st tx, .slice p n c] w (Gives (fun b : Nat => ptr b) (fun _ => True) w (fun _ => []) fun b => [(b, ndO kd [] tx 0 t.a (.slice p n c))]) := by
  refine calls_of_W (vs := [.int .i64 kd, tiV t, st tx, .slice p n c]) Try.func61 rfl Try.ntmps61 (Nat.le_of_ble_eq_true rfl) (St.nil w []) ?_
  simp only [argL]
  obtain ⟨k, tx1, x, a1, n1⟩ := t
  dsimp only [tiV, tiC]
  repeat' (first | (apply gL; first | (apply Wl.ev rfl rfl; (focus (first | exact ev_move rfl | (apply gLoa; first | exact ev_load (agT rfl) rfl (by repeat (first | exact List.Mem.head _ | apply List.Mem.tail)) rfl) | (apply gFie; first | exact ev_fieldAddr0 (fldT rfl) rfl) | exact ev_assign rfl | (apply gBui; first | (apply ev_build (bldT rfl) rfl; simp [fillP]; rfl))))) | ((show Wl _ _ _ _ _ _ _ (⟨some _, .box _ _, _, _, _, _⟩ :: _) _ _); refine wl_box rfl rfl rfl rfl ?_; intro bt) | apply Wl.nil) | (apply gQ; first | (apply Wq.ev rfl rfl; (focus (first | exact ev_move rfl | (apply gLoa; first | exact ev_load (agT rfl) rfl (by repeat (first | exact List.Mem.head _ | apply List.Mem.tail)) rfl) | (apply gFie; first | exact ev_fieldAddr0 (fldT rfl) rfl) | exact ev_assign rfl | (apply gBui; first | (apply ev_build (bldT rfl) rfl; simp [fillP]; rfl)))))) | ((show W _ _ _ _ _ _ _ _ _); first | apply W.seq | apply W.region | (refine W.ret1 rfl rfl ?_; intro w hs)))
  all_goals first | exact ret_new hs _ trivial rfl (by repeat (first | exact SubH.nil | apply SubH.keep | apply SubH.drop | exact List.Sublist.refl _ | exact List.sublist_append_left _ _)) | fail
end Go.Proofs.Ytbinaeemcidicaa
