/- Walks: a token taken, a sign taken, a sign that may stand. No condition. -/
import Derived.Test.YtbinaeemcidicaaZPB
import Derived.Test.YtbinaeemcidicaaZEN
namespace Go.Proofs.Ytbinaeemcidicaa
open Go.PB Go.RowKit
attribute [local irreducible] Go.Calls
/-- which tokens are right: a function value, what it reads -/
def PredE (fv : Value) (p : Ti → Bool) (R : List Ent) : Prop :=
  ∃ f cs, fv = fnV f [] cs ∧ Has Try.prog f ∧ ∀ {M : List Nat} {w0 w : World} {H : List Ent} (t : Ti), St M w0 w H → (∀ e ∈ R, e ∈ H) → Calls Try.prog f ([] ++ [tiV t] ++ cs).toArray w (Give (.bool (p t)) w)
theorem mem_frontE {H A : List Ent} {x p : Ent} (hp : List.Perm H (x :: A)) (h : p ∈ H) (hb : p ≠ x) : p ∈ A := by
  rcases List.mem_cons.1 (hp.subset h) with rfl | h
  · exact absurd rfl hb
  · exact h
theorem drop_lt {α : Type} {L l : List α} {a : Nat} {t : α} (h : L.drop a = t :: l) : a < L.length := by
  by_cases hlt : a < L.length
  · exact hlt
  · rw [List.drop_of_length_le (by omega)] at h
    cases h
theorem drop_next {α : Type} {L l : List α} {a : Nat} {t : α} (h : L.drop a = t :: l) : L.drop (a + 1) = l := by
  rw [← List.drop_drop, h]
  rfl
set_option maxRecDepth 100000 in
theorem take_ok {M : List Nat} {w0 w : World} {H H' TR R : List Ent} {r a : Nat} {lv fv : Value} {L l : List Ti} {p : Ti → Bool} {t : Ti} (hst : St M w0 w H) (hp : PredE fv p R) (hR : ∀ e ∈ R, e ∈ H) (hRr : ∀ e ∈ R, e ≠ ⟨r, true, rdP lv a⟩)
    (hu : Upd H r (rdP lv a) (rdP lv (a + 1)) H') (hT : TokE TR r lv L) (hm : ∀ p ∈ TR, p ∈ H) (hl : L.drop a = t :: l) (ht : p t = true) :
    Calls Try.prog 47 #[ptr r, fv] w (GivesS (fun _ : Unit => tiV t) (fun _ => True) M w0 fun _ => H') := by
  obtain ⟨A, p1, p2⟩ := hu.front
  have hTA : ∀ e ∈ TR, e ∈ A := fun e he => mem_front p1 (hm e he) (hT.2.1 e he)
  have hRA : ∀ e ∈ R, e ∈ A := fun e he => mem_frontE p1 (hR e he) (hRr e he)
  have hlt := drop_lt hl
  have hst1 := hst.perm p1
  obtain ⟨f, cs, rfl, hh, hc⟩ := hp
  have hL := hT.2.2.1
  obtain ⟨q, c, hq⟩ := hT.1.len
  have hpk : ∀ {H : List Ent} (w' : World), St (wrs (⟨r, true, rdP lv a⟩ :: A)) w w' H → (⟨r, true, rdP lv a⟩ : Ent) ∈ H → (∀ p ∈ TR, p ∈ H) → Calls Try.prog 46 #[ptr r, .int .i64 0] w' (Give (tiV t) w') := fun w' hs h1 h2 => by
    have := ppeek_ok hs h1 hT h2 (Nat.le_of_lt hlt) (k := 0) (by omega)
    rw [Nat.add_zero, hl] at this
    exact this
  have hcc : ∀ {H : List Ent} (w' : World), St (wrs (⟨r, true, rdP lv a⟩ :: A)) w w' H → (∀ p ∈ R, p ∈ H) → Calls Try.prog f ([] ++ [tiV t] ++ cs).toArray w' (Give (.bool true) w') := fun w' hs h2 => by
    have := hc t hs h2
    rw [ht] at this
    exact this
  refine calls_of_W (vs := [ptr r, fnV f [] cs]) Try.func47 rfl Try.ntmps47 (Nat.le_of_ble_eq_true rfl) hst1.fromHere ?_
  simp only [argL]
  obtain ⟨k, tx, x, at_, n⟩ := t
  subst hq
  replace p2 : List.Perm H' (⟨r, true, row [.slice q L.length c, .int .i64 ((a : Int) + 1)] 60⟩ :: A) := p2
  repeat' (first | (apply gL; first | (apply Wl.ev rfl rfl; (focus (first | exact ev_move rfl | (apply gLoa; first | exact ev_load (agT rfl) rfl (by repeat (first | exact List.Mem.head _ | apply List.Mem.tail)) rfl | exact ev_loadWhole (agT rfl) (szT rfl) rfl (by repeat (first | exact List.Mem.head _ | apply List.Mem.tail)) rfl) | (apply gFie; first | exact ev_fieldAddr0 (fldT rfl) rfl) | exact ev_pickF rfl rfl | (apply gBin; first | exact ev_eqi rfl rfl | exact ev_add64 rfl rfl (by omega)) | exact ev_notT rfl | (apply gCal; first | exact ev_len_slice (slT rfl) rfl) | exact ev_nilCheck_ptr rfl))) | (refine wl_storeWhole rfl rfl rfl (szT rfl) (by repeat (first | rfl | refine all_one_cons ?_ ?_)) (by repeat (first | exact Upd.here | apply Upd.there)) (by rfl) ?_) | ((show Wl _ _ _ _ _ _ _ (⟨_, .call ⟨.value (.func 46), _, _⟩, _, _, _, _⟩ :: _) _ _); refine wl_call0 rfl rfl has46 rfl (fun w hs => hpk w hs (by repeat (first | exact List.Mem.head _ | apply List.Mem.tail)) (by intro p hp; repeat (first | exact hTA p hp | apply List.Mem.tail))) ?_) | apply Wl.nil | (refine wl_alloc rfl rfl (zeroT rfl) ?_; intro b) | (refine wl_store1 rfl rfl rfl rfl (szT rfl) (by repeat (first | exact Upd.here | apply Upd.there)) (by first | decide | (simp; done)) ?_; try simp only [List.set])) | (apply gQ; first | (apply Wq.ev rfl rfl; (focus (first | exact ev_move rfl | (apply gLoa; first | exact ev_load (agT rfl) rfl (by repeat (first | exact List.Mem.head _ | apply List.Mem.tail)) rfl | exact ev_loadWhole (agT rfl) (szT rfl) rfl (by repeat (first | exact List.Mem.head _ | apply List.Mem.tail)) rfl) | (apply gFie; first | exact ev_fieldAddr0 (fldT rfl) rfl) | exact ev_pickF rfl rfl | (apply gBin; first | exact ev_eqi rfl rfl | exact ev_add64 rfl rfl (by omega)) | exact ev_notT rfl | (apply gCal; first | exact ev_len_slice (slT rfl) rfl) | exact ev_nilCheck_ptr rfl))) | ((show Wq _ _ _ _ _ _ _ (⟨_, .call ⟨.value _, _, _⟩, _, _, _, _⟩ :: _) _ _); refine Wq.callF rfl rfl hh rfl rfl (fun w hs => hcc w hs (by intro p hp; repeat (first | exact hRA p hp | apply List.Mem.tail))) ?_) | apply Wq.nil | ((fail_if_success (apply Wq.chk rfl)); refine Wq.split rfl rfl ?_ ?_ <;> (intro h; try (exfalso; first | contradiction | omega | exact h rfl | exact h ⟨rfl, rfl⟩ | (simp_all; done))))) | ((show W _ _ _ _ _ _ _ _ _); first | apply W.seq | (refine W.regionQ mixed (by kernel_rfl) ?_) | apply W.region | apply W.skip | (refine W.condF rfl ?_) | (refine W.retc rfl rfl (agT rfl) (by repeat (first | exact List.Mem.head _ | apply List.Mem.tail)) (szT rfl) ?_; intro w hs)))
  all_goals first | exact GivesS.ofC hst1 hs () trivial rfl (by intro e; rw [p2.count_eq]; simp only [cnt_cons]; omega) | (exfalso; omega) | fail
set_option maxRecDepth 100000 in
theorem take_bad {M : List Nat} {w0 w : World} {H TR R : List Ent} {r a : Nat} {lv fv : Value} {L : List Ti} {p : Ti → Bool} (hst : St M w0 w H) (hp : PredE fv p R) (hR : ∀ e ∈ R, e ∈ H) 
    (hr : (⟨r, true, rdP lv a⟩ : Ent) ∈ H) (hT : TokE TR r lv L) (hm : ∀ p ∈ TR, p ∈ H) (ha : a ≤ L.length) (ht : a < L.length → p ((L.drop a).headD ti0) = false) :
    Calls Try.prog 47 #[ptr r, fv] w (BadS wrongC M w0 H) := by
  have hTA := hm
  have hRA := hR
  obtain ⟨f, cs, rfl, hh, hc⟩ := hp
  have hL := hT.2.2.1
  obtain ⟨q, c, hq⟩ := hT.1.len
  obtain ⟨t, htt⟩ : ∃ t, (L.drop a).headD ti0 = t := ⟨_, rfl⟩
  rw [htt] at ht
  have hpk : ∀ {H1 : List Ent} (w' : World), St (wrs H) w w' H1 → (⟨r, true, rdP lv a⟩ : Ent) ∈ H1 → (∀ p ∈ TR, p ∈ H1) → Calls Try.prog 46 #[ptr r, .int .i64 0] w' (Give (tiV t) w') := fun w' hs h1 h2 => by
    have := ppeek_ok hs h1 hT h2 ha (k := 0) (by omega)
    rw [Nat.add_zero, htt] at this
    exact this
  have hcc : ∀ {H1 : List Ent} (w' : World), a < L.length → St (wrs H) w w' H1 → (∀ p ∈ R, p ∈ H1) → Calls Try.prog f ([] ++ [tiV t] ++ cs).toArray w' (Give (.bool false) w') := fun w' h1 hs h2 => by
    have := hc t hs h2
    rw [ht h1] at this
    exact this
  refine calls_of_W (vs := [ptr r, fnV f [] cs]) Try.func47 rfl Try.ntmps47 (Nat.le_of_ble_eq_true rfl) hst.fromHere ?_
  simp only [argL]
  obtain ⟨k, tx, x, at_, n⟩ := t
  subst hq
  by_cases hlt : a < L.length
  · have hcd : ∀ {H1 : List Ent} (w' : World), St (wrs H) w w' H1 → (∀ p ∈ R, p ∈ H1) → _ := fun {H1} w' hs h2 => hcc (H1 := H1) w' hlt hs h2
    repeat' (first | (apply gL; first | (apply Wl.ev rfl rfl; (focus (first | exact ev_move rfl | (apply gLoa; first | exact ev_load (agT rfl) rfl (by repeat (first | exact hr | apply List.Mem.tail)) rfl | exact ev_loadWhole (agT rfl) (szT rfl) rfl (by repeat (first | exact List.Mem.head _ | apply List.Mem.tail)) rfl) | (apply gFie; first | exact ev_fieldAddr0 (fldT rfl) rfl) | exact ev_pickF rfl rfl | exact ev_eqi rfl rfl | exact ev_notF rfl | (apply gBui; first | (apply ev_build (bldT rfl) rfl; simp [fillP]; rfl)) | (apply gCal; first | exact ev_len_slice (slT rfl) rfl) | exact ev_nilCheck_ptr rfl | exact ev_iface (show Program.underlying _ 90 = some _ from rfl) (by intro ms e; cases e) rfl))) | (refine wl_storeWhole rfl rfl rfl (szT rfl) (by repeat (first | rfl | refine all_one_cons ?_ ?_)) (by repeat (first | exact Upd.here | apply Upd.there)) (by rfl) ?_) | (refine wl_panic rfl rfl (bad_end ?_); intro w hs) | ((show Wl _ _ _ _ _ _ _ (⟨_, .call ⟨.value (.func 46), _, _⟩, _, _, _, _⟩ :: _) _ _); refine wl_call0 rfl rfl has46 rfl (fun w hs => hpk w hs (by repeat (first | exact hr | apply List.Mem.tail)) (by intro p hp; repeat (first | exact hTA p hp | apply List.Mem.tail))) ?_) | apply Wl.nil | (refine wl_alloc rfl rfl (zeroT rfl) ?_; intro b)) | (apply gQ; first | (apply Wq.ev rfl rfl; (focus (first | exact ev_move rfl | (apply gLoa; first | exact ev_load (agT rfl) rfl (by repeat (first | exact hr | apply List.Mem.tail)) rfl | exact ev_loadWhole (agT rfl) (szT rfl) rfl (by repeat (first | exact List.Mem.head _ | apply List.Mem.tail)) rfl) | (apply gFie; first | exact ev_fieldAddr0 (fldT rfl) rfl) | exact ev_pickF rfl rfl | exact ev_eqi rfl rfl | exact ev_notF rfl | (apply gBui; first | (apply ev_build (bldT rfl) rfl; simp [fillP]; rfl)) | (apply gCal; first | exact ev_len_slice (slT rfl) rfl) | exact ev_nilCheck_ptr rfl | exact ev_iface (show Program.underlying _ 90 = some _ from rfl) (by intro ms e; cases e) rfl))) | ((show Wq _ _ _ _ _ _ _ (⟨_, .call ⟨.value _, _, _⟩, _, _, _, _⟩ :: _) _ _); refine Wq.callF rfl rfl hh rfl rfl (fun w hs => hcd w hs (by intro p hp; repeat (first | exact hRA p hp | apply List.Mem.tail))) ?_) | apply Wq.nil | ((fail_if_success (apply Wq.chk rfl)); refine Wq.split rfl rfl ?_ ?_ <;> (intro h; try (exfalso; first | contradiction | omega | exact h rfl | exact h ⟨rfl, rfl⟩ | (simp_all; done))))) | ((show W _ _ _ _ _ _ _ _ _); first | apply W.seq | (refine W.regionQ mixed (by kernel_rfl) ?_) | apply W.region | (refine W.condT rfl ?_)))
    all_goals first | exact BadS.of hst hs (by repeat (first | exact SubH.nil | apply SubH.keep | apply SubH.drop | exact List.Sublist.refl _ | exact List.sublist_append_left _ _)) | (exfalso; omega) | fail
  · repeat' (first | (apply gL; first | (apply Wl.ev rfl rfl; (focus (first | exact ev_move rfl | (apply gLoa; first | exact ev_load (agT rfl) rfl (by repeat (first | exact hr | apply List.Mem.tail)) rfl) | (apply gFie; first | exact ev_fieldAddr0 (fldT rfl) rfl) | exact ev_pickT rfl rfl | exact ev_eqi rfl rfl | (apply gBui; first | (apply ev_build (bldT rfl) rfl; simp [fillP]; rfl)) | (apply gCal; first | exact ev_len_slice (slT rfl) rfl) | exact ev_nilCheck_ptr rfl | exact ev_iface (show Program.underlying _ 90 = some _ from rfl) (by intro ms e; cases e) rfl))) | (refine wl_storeWhole rfl rfl rfl (szT rfl) (by repeat (first | rfl | refine all_one_cons ?_ ?_)) (by repeat (first | exact Upd.here | apply Upd.there)) (by rfl) ?_) | (refine wl_panic rfl rfl (bad_end ?_); intro w hs) | ((show Wl _ _ _ _ _ _ _ (⟨_, .call ⟨.value (.func 46), _, _⟩, _, _, _, _⟩ :: _) _ _); refine wl_call0 rfl rfl has46 rfl (fun w hs => hpk w hs (by repeat (first | exact hr | apply List.Mem.tail)) (by intro p hp; repeat (first | exact hTA p hp | apply List.Mem.tail))) ?_) | apply Wl.nil | (refine wl_alloc rfl rfl (zeroT rfl) ?_; intro b)) | (apply gQ; first | (apply Wq.ev rfl rfl; (focus (first | exact ev_move rfl | (apply gLoa; first | exact ev_load (agT rfl) rfl (by repeat (first | exact hr | apply List.Mem.tail)) rfl) | (apply gFie; first | exact ev_fieldAddr0 (fldT rfl) rfl) | exact ev_pickT rfl rfl | exact ev_eqi rfl rfl | (apply gBui; first | (apply ev_build (bldT rfl) rfl; simp [fillP]; rfl)) | (apply gCal; first | exact ev_len_slice (slT rfl) rfl) | exact ev_nilCheck_ptr rfl | exact ev_iface (show Program.underlying _ 90 = some _ from rfl) (by intro ms e; cases e) rfl))) | apply Wq.nil | (refine Wq.skip rfl rfl ?_) | ((fail_if_success (apply Wq.chk rfl)); refine Wq.split rfl rfl ?_ ?_ <;> (intro h; try (exfalso; first | contradiction | omega | exact h rfl | exact h ⟨rfl, rfl⟩ | (simp_all; done))))) | ((show W _ _ _ _ _ _ _ _ _); first | apply W.seq | (refine W.regionQ mixed (by kernel_rfl) ?_) | apply W.region | (refine W.condT rfl ?_)))
    all_goals first | exact BadS.of hst hs (by repeat (first | exact SubH.nil | apply SubH.keep | apply SubH.drop | exact List.Sublist.refl _ | exact List.sublist_append_left _ _)) | (exfalso; omega) | fail
end Go.Proofs.Ytbinaeemcidicaa
