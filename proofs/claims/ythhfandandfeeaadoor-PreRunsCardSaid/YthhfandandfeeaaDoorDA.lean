/- Walks: the document's words and parts: where a word stands, whether it stands for something, whether what stands here counts. No condition. -/
import Derived.Test.YthhfandandfeeaaDoorMB
namespace Go.Proofs.YthhfandandfeeaaDoor
open Go.PB Go.RowKit
attribute [local irreducible] Go.Calls
/-- a word of the document: its name, its tokens, where these are kept -/
structure We where
  n : Nm
  l : List Tk
  v : Value
def weC (e : We) : List Value := [st e.n, e.v]
def wesC (E : List We) : List Value := E.flatMap weC
def wV (E : List We) : Wds := E.map fun e => (e.n, e.l)
abbrev we0 : We := ⟨[], [], .slice none 0 0⟩
/-- where a word stands -/
def fidx : List We → Nm → Option Nat
  | [], _ => none
  | e :: E, n => if e.n = n then some 0 else (fidx E n).map (· + 1)
def fval (E : List We) (n : Nm) : Int := match fidx E n with
  | none => -1
  | some i => (i : Nat)
theorem fidx_some : ∀ {E : List We} {n : Nm} {i : Nat}, fidx E n = some i → i < E.length ∧ (E.getD i we0).n = n ∧ wget (wV E) n = some (E.getD i we0).l
  | [], _, _, h => by cases h
  | e :: E, n, i, h => by
    simp only [fidx] at h
    split at h
    · rename_i he
      cases h
      exact ⟨by simp, by simpa using he, by simp [wV, wget, he]⟩
    · rename_i he
      cases hx : fidx E n with
      | none => rw [hx] at h; cases h
      | some k =>
        rw [hx] at h
        cases h
        obtain ⟨h1, h2, h3⟩ := fidx_some hx
        refine ⟨by simpa using h1, by simpa using h2, ?_⟩
        rw [show wV (e :: E) = (e.n, e.l) :: wV E from rfl]
        simp only [wget, if_neg he]
        simpa using h3
theorem fidx_none : ∀ {E : List We} {n : Nm}, fidx E n = none → wget (wV E) n = none
  | [], _, _ => rfl
  | e :: E, n, h => by
    simp only [fidx] at h
    split at h
    · cases h
    · rename_i he
      rw [show wV (e :: E) = (e.n, e.l) :: wV E from rfl]
      simp only [wget, if_neg he]
      exact fidx_none (by cases hx : fidx E n with
        | none => rfl
        | some k => rw [hx] at h; cases h)
theorem fidx_at {E : List We} {n : Nm} : ∀ {j : Nat}, (∀ i, i < j → (E.getD i we0).n ≠ n) → j < E.length → (E.getD j we0).n = n → fidx E n = some j := by
  induction E with
  | nil => intro j _ h; simp at h
  | cons e E ih =>
    intro j h1 h2 h3
    cases j with
    | zero =>
      simp only [List.getD_cons_zero] at h3
      simp [fidx, h3]
    | succ j =>
      have h0 := h1 0 (by omega)
      simp only [List.getD_cons_zero] at h0
      simp only [fidx, if_neg h0]
      rw [ih (j := j) (fun i hi => by have := h1 (i + 1) (by omega); simpa using this) (by simpa using h2) (by simpa using h3)]
      rfl
theorem fidx_no {E : List We} {n : Nm} (h : ∀ i, i < E.length → (E.getD i we0).n ≠ n) : fidx E n = none := by
  induction E with
  | nil => rfl
  | cons e E ih =>
    have h0 := h 0 (by simp)
    simp only [List.getD_cons_zero] at h0
    simp only [fidx, if_neg h0]
    rw [ih fun i hi => by have := h (i + 1) (by simpa using hi); simpa using this]
    rfl
/-- a row of one's own, in what is known -/
def OwIn (H : List Ent) (e : TypeId) : Ow → Prop
  | none => True
  | some o => ∃ wr, (⟨o.1, wr, .cells o.2.2 e (0, 0)⟩ : Ent) ∈ H
theorem OwIn.ro {H : List Ent} {e : TypeId} {o : Ow} (h : OwIn H e o) : OwIn (ro H) e o := by
  cases o with
  | none => exact trivial
  | some o =>
    obtain ⟨wr, h⟩ := h
    exact ⟨false, mem_ro h⟩
theorem OwIn.mono {H H' : List Ent} {e : TypeId} {o : Ow} (h : OwIn H e o) (hH : ∀ p ∈ H, p ∈ H') : OwIn H' e o := by
  cases o with
  | none => exact trivial
  | some o =>
    obtain ⟨wr, h⟩ := h
    exact ⟨wr, hH _ h⟩
theorem OwIn.of {H : List Ent} {e : TypeId} {o : Ow} (h : ∀ p ∈ ownH e o, p ∈ H) : OwIn H e o := by
  cases o with
  | none => exact trivial
  | some o => exact ⟨true, h _ (List.Mem.head _)⟩
set_option maxRecDepth 100000 in
set_option maxHeartbeats 1000000 in
theorem find_ok {M : List Nat} {w0 w : World} {H : List Ent} {E : List We} {ow : Ow} {pv ov : Value} (n : Nm) (hst : St M w0 w H) (hE : ownOk E.length 2 (wesC E) ow) (hin : OwIn H 51 ow) (hl : E.length ≤ 100000) :
    Calls Tryd.prog 40 #[.agg #[ownV E.length ow, pv, ov], st n] w (Give (.int .i64 (fval E n)) w) := by
  refine give_of_W (vs := [.agg #[ownV E.length ow, pv, ov], st n]) Tryd.func40 rfl Tryd.ntmps40 (Nat.le_of_ble_eq_true rfl) hst.reads ?_
  simp only [argL]
  repeat' (first | (apply gL; first | (apply Wl.ev rfl rfl; (focus (first | exact ev_assign rfl))) | ((show Wl _ _ _ _ _ _ _ (⟨some 2, .box _ _, _, _, _, _⟩ :: _) _ _); refine wl_box rfl rfl rfl rfl ?_; intro sb) | apply Wl.nil) | (apply gQ; first | (apply Wq.ev rfl rfl; (focus (first | exact ev_assign rfl)))) | ((show W _ _ _ _ _ _ _ _ _); first | apply W.seq | (refine W.loop (X := Nat) (fun j => [(1, st n), (2, ptr sb), (5, .int .i64 (j : Nat))]) (fun _ => ⟨sb, true, row [ownV E.length ow, pv, ov] 55⟩ :: ro H) (fun j => j ≤ E.length ∧ ∀ i, i < j → (E.getD i we0).n ≠ n) (fun j => E.length - j) 0 ⟨Nat.zero_le _, fun i hi => absurd hi (Nat.not_lt_zero _)⟩ (by repeat (first | exact SubL.nil | refine SubL.cons rfl ?_)) (List.Sublist.refl _) ?_) | apply W.region | apply W.block))
  rintro j ⟨hj, hno⟩
  have hlen : ∀ {L : List (Nat × Value)} {H : List Ent} {x : Operand} {oty : TypeId} {M : List Nat} {w0 : World} {n : Nat} {D : List Deferred}, evo L x = some (ownV E.length ow) → Ev Tryd.prog M w0 n D L H (.call { callee := .builtin .len, args := #[x], argTypes := #[52] }) oty (.int .i64 (E.length : Nat)) := fun hx => ev_len_own (slT rfl) hE hx
  by_cases hlt : j < E.length
  · have hin' := hin.ro
    obtain ⟨b, cap, cur, rfl, h1, h2, h3⟩ := own_some hE (by omega)
    obtain ⟨wr, hmem⟩ := hin'
    obtain ⟨⟨en, el, ev⟩, he⟩ : ∃ e, E.getD j we0 = e := ⟨_, rfl⟩
    have hat : ∀ o, o = j * 2 → cur[o]? = some (st en) := fun o ho => by
      rw [ho]
      exact h3 _ _ (flat_get weC 2 (fun _ => rfl) we0 hlt (i := 0) (by rw [he]; rfl))
    by_cases hn : en = n
    · have hf : fval E n = (j : Nat) := by
        unfold fval
        rw [fidx_at hno hlt (by rw [he]; exact hn)]
      rw [hf]
      subst hn
      repeat' (first | (apply gL; first | (apply Wl.ev rfl rfl; (focus (first | exact ev_move rfl | (apply gLoa; first | exact ev_loadAt (agT rfl) rfl (List.Mem.tail _ hmem) (hat _ (by omega)) | exact ev_load (agT rfl) rfl (by repeat (first | exact List.Mem.head _ | apply List.Mem.tail)) rfl) | (apply gFie; first | exact ev_fieldAddr0 (fldT rfl) rfl | exact ev_fieldAddr (fldT rfl) rfl) | exact ev_assign rfl | (apply gBin; first | exact ev_eqs rfl rfl | exact ev_lti rfl rfl) | (apply gCal; first | exact ev_len_slice (slT rfl) rfl) | (apply gIxA; first | exact ev_indexAddr (slT rfl) (szT rfl) rfl rfl (by omega))))) | apply Wl.nil) | (apply gQ; first | (apply Wq.ev rfl rfl; (focus (first | exact ev_move rfl | (apply gLoa; first | exact ev_loadAt (agT rfl) rfl (List.Mem.tail _ hmem) (hat _ (by omega)) | exact ev_load (agT rfl) rfl (by repeat (first | exact List.Mem.head _ | apply List.Mem.tail)) rfl) | (apply gFie; first | exact ev_fieldAddr0 (fldT rfl) rfl | exact ev_fieldAddr (fldT rfl) rfl) | exact ev_assign rfl | (apply gBin; first | exact ev_eqs rfl rfl | exact ev_lti rfl rfl) | (apply gCal; first | exact ev_len_slice (slT rfl) rfl) | (apply gIxA; first | exact ev_indexAddr (slT rfl) (szT rfl) rfl rfl (by omega)))))) | ((show W _ _ _ _ _ _ _ _ _); first | apply W.seq | apply W.region | apply W.block | apply W.skip | (refine W.cond rfl ?_ ?_ <;> (intro h; try (exfalso; first | contradiction | omega | exact h rfl | exact h ⟨rfl, rfl⟩ | (simp_all; done)))) | (refine W.ret1 rfl rfl ?_; intro w hs)))
      all_goals exact ret_eq hs rfl
    · repeat' (first | (apply gL; first | (apply Wl.ev rfl rfl; (focus (first | exact ev_move rfl | (apply gLoa; first | exact ev_loadAt (agT rfl) rfl (List.Mem.tail _ hmem) (hat _ (by omega)) | exact ev_load (agT rfl) rfl (by repeat (first | exact List.Mem.head _ | apply List.Mem.tail)) rfl) | (apply gFie; first | exact ev_fieldAddr0 (fldT rfl) rfl | exact ev_fieldAddr (fldT rfl) rfl) | exact ev_assign rfl | (apply gBin; first | exact ev_eqs rfl rfl | exact ev_lti rfl rfl | exact ev_add64 rfl rfl (by omega)) | (apply gCal; first | exact ev_len_slice (slT rfl) rfl) | (apply gIxA; first | exact ev_indexAddr (slT rfl) (szT rfl) rfl rfl (by omega))))) | apply Wl.nil) | (apply gQ; first | (apply Wq.ev rfl rfl; (focus (first | exact ev_move rfl | (apply gLoa; first | exact ev_loadAt (agT rfl) rfl (List.Mem.tail _ hmem) (hat _ (by omega)) | exact ev_load (agT rfl) rfl (by repeat (first | exact List.Mem.head _ | apply List.Mem.tail)) rfl) | (apply gFie; first | exact ev_fieldAddr0 (fldT rfl) rfl | exact ev_fieldAddr (fldT rfl) rfl) | exact ev_assign rfl | (apply gBin; first | exact ev_eqs rfl rfl | exact ev_lti rfl rfl | exact ev_add64 rfl rfl (by omega)) | (apply gCal; first | exact ev_len_slice (slT rfl) rfl) | (apply gIxA; first | exact ev_indexAddr (slT rfl) (szT rfl) rfl rfl (by omega)))))) | ((show W _ _ _ _ _ _ _ _ _); first | apply W.seq | apply W.region | apply W.block | apply W.blk | apply W.skip | (refine W.cond rfl ?_ ?_ <;> (intro h; try (exfalso; first | contradiction | omega | exact h rfl | exact h ⟨rfl, rfl⟩ | (simp_all; done))))))
      exact W.again (j + 1) ⟨hlt, fun i hi => by
        by_cases hij : i = j
        · rw [hij, he]; exact hn
        · exact hno i (by omega)⟩ (by omega) (by repeat (first | exact SubL.nil | refine SubL.cons rfl ?_)) (List.Sublist.refl _)
  · obtain rfl : j = E.length := by omega
    have hf : fval E n = -1 := by
      unfold fval
      rw [fidx_no hno]
    rw [hf]
    repeat' (first | (apply gL; first | (apply Wl.ev rfl rfl; (focus (first | exact ev_move rfl | (apply gLoa; first | exact ev_load (agT rfl) rfl (by repeat (first | exact List.Mem.head _ | apply List.Mem.tail)) rfl) | (apply gFie; first | exact ev_fieldAddr0 (fldT rfl) rfl) | exact ev_assign rfl | exact ev_lti rfl rfl | exact hlen rfl))) | apply Wl.nil) | (apply gQ; first | (apply Wq.ev rfl rfl; (focus (first | exact ev_move rfl | (apply gLoa; first | exact ev_load (agT rfl) rfl (by repeat (first | exact List.Mem.head _ | apply List.Mem.tail)) rfl) | (apply gFie; first | exact ev_fieldAddr0 (fldT rfl) rfl) | exact ev_assign rfl | exact ev_lti rfl rfl | exact hlen rfl)))) | ((show W _ _ _ _ _ _ _ _ _); first | apply W.seq | apply W.region | (refine W.exit rfl ?_) | (refine W.cond rfl ?_ ?_ <;> (intro h; try (exfalso; first | contradiction | omega | exact h rfl | exact h ⟨rfl, rfl⟩ | (simp_all; done)))) | (refine W.ret1 rfl rfl ?_; intro w hs)))
    all_goals exact ret_eq hs rfl
set_option maxRecDepth 100000 in
set_option maxHeartbeats 1000000 in
theorem stands11_ok {M : List Nat} {w0 w : World} {H : List Ent} {E : List We} {ow : Ow} {pv ov : Value} (n : Nm) (hst : St M w0 w H) (hE : ownOk E.length 2 (wesC E) ow) (hin : OwIn H 51 ow) (hl : E.length ≤ 100000) :
    Calls Tryd.prog 38 #[.agg #[ownV E.length ow, pv, ov], st n] w (Give (.bool (standsB (wV E) n)) w) := by
  refine give_of_W (vs := [.agg #[ownV E.length ow, pv, ov], st n]) Tryd.func38 rfl Tryd.ntmps38 (Nat.le_of_ble_eq_true rfl) hst.reads ?_
  simp only [argL]
  have hf : ∀ {M : List Nat} {w0 w : World} {p : Ent}, St M w0 w (p :: ro H) → Calls Tryd.prog 40 #[.agg #[ownV E.length ow, pv, ov], st n] w (Give (.int .i64 (fval E n)) w) := fun hs => find_ok n hs hE (hin.ro.mono fun p hp => List.Mem.tail _ hp) hl
  have hsb : standsB (wV E) n = (decide (n = nLINE) || decide (n = nVER) || decide (0 ≤ fval E n)) := by
    unfold standsB fval
    rw [Bool.eq_iff_iff]
    cases hx : fidx E n with
    | none => simp [fidx_none hx]
    | some i => simp [(fidx_some hx).2.2]
  rw [hsb]
  obtain ⟨F, hF⟩ : ∃ F, fval E n = F := ⟨_, rfl⟩
  rw [hF] at hf ⊢
  repeat' (first | (apply gL; first | (apply Wl.ev rfl rfl; (focus (first | exact ev_move rfl | (apply gLoa; first | exact ev_loadWhole (agT rfl) (szT rfl) rfl (by repeat (first | exact List.Mem.head _ | apply List.Mem.tail)) rfl) | exact ev_assign rfl | (apply gPic; first | exact ev_pickT rfl rfl | exact ev_pickF rfl rfl) | (apply gBin; first | exact ev_eqs rfl rfl | exact ev_gei rfl rfl)))) | ((show Wl _ _ _ _ _ _ _ (⟨some 2, .box _ _, _, _, _, _⟩ :: _) _ _); refine wl_box rfl rfl rfl rfl ?_; intro sb) | ((show Wl _ _ _ _ _ _ _ (⟨_, .call ⟨.value (.func 40), _, _⟩, _, _, _, _⟩ :: _) _ _); refine wl_call0 rfl rfl has40 rfl (fun w hs => hf hs) ?_) | apply Wl.nil | (refine Wl.skip rfl rfl ?_) | ((fail_if_success (apply Wl.chk rfl)); refine Wl.split rfl rfl ?_ ?_ <;> (intro h; try (exfalso; first | contradiction | omega | exact h rfl | exact h ⟨rfl, rfl⟩ | (simp_all; done))))) | (apply gQ; first | (apply Wq.ev rfl rfl; (focus (first | exact ev_move rfl | (apply gLoa; first | exact ev_loadWhole (agT rfl) (szT rfl) rfl (by repeat (first | exact List.Mem.head _ | apply List.Mem.tail)) rfl) | exact ev_assign rfl | (apply gPic; first | exact ev_pickT rfl rfl | exact ev_pickF rfl rfl) | (apply gBin; first | exact ev_eqs rfl rfl | exact ev_gei rfl rfl))))) | ((show W _ _ _ _ _ _ _ _ _); first | apply W.seq | apply W.region | (refine W.ret1 rfl rfl ?_; intro w hs)))
  all_goals exact ret_eq hs (congrArg Value.bool (by rw [Bool.eq_iff_iff]; first | (simp_all [nLINE, nVER]; done) | (simp_all [nLINE, nVER]; omega)))
set_option maxRecDepth 100000 in
set_option maxHeartbeats 1000000 in
theorem counts11_ok {M : List Nat} {w0 w : World} {H : List Ent} {D : List Pt} {o : Ow} {wv ov : Value} (hst : St M w0 w H) (ho : ownOk D.length 3 (ptsC D) o) (hin : OwIn H 76 o) (hl : D.length ≤ 100000) :
    Calls Tryd.prog 26 #[.agg #[wv, ownV D.length o, ov]] w (Give (.bool (cntB D)) w) := by
  refine give_of_W (vs := [.agg #[wv, ownV D.length o, ov]]) Tryd.func26 rfl Tryd.ntmps26 (Nat.le_of_ble_eq_true rfl) hst.reads ?_
  simp only [argL]
  repeat' (first | (apply gL; first | (apply Wl.ev rfl rfl; (focus (first | exact ev_assign rfl))) | ((show Wl _ _ _ _ _ _ _ (⟨some 1, .box _ _, _, _, _, _⟩ :: _) _ _); refine wl_box rfl rfl rfl rfl ?_; intro sb) | apply Wl.nil) | (apply gQ; first | (apply Wq.ev rfl rfl; (focus (first | exact ev_assign rfl)))) | ((show W _ _ _ _ _ _ _ _ _); first | apply W.seq | (refine W.loop (X := Nat) (fun j => [(1, ptr sb), (3, .int .i64 (j : Nat))]) (fun _ => ⟨sb, true, row [wv, ownV D.length o, ov] 55⟩ :: ro H) (fun j => j ≤ D.length ∧ (D.take j).all (·.counts) = true) (fun j => D.length - j) 0 ⟨Nat.zero_le _, by simp⟩ (by repeat (first | exact SubL.nil | refine SubL.cons rfl ?_)) (List.Sublist.refl _) ?_) | apply W.region | apply W.block))
  rintro j ⟨hj, hall⟩
  by_cases hlt : j < D.length
  · have hin' := hin.ro
    have hlen : ∀ {L : List (Nat × Value)} {H : List Ent} {x : Operand} {oty : TypeId} {M : List Nat} {w0 : World} {n : Nat} {Z : List Deferred}, evo L x = some (ownV D.length o) → Ev Tryd.prog M w0 n Z L H (.call { callee := .builtin .len, args := #[x], argTypes := #[53] }) oty (.int .i64 (D.length : Nat)) := fun hx => ev_len_own (slT rfl) ho hx
    obtain ⟨b, cap, cur, rfl, h1, h2, h3⟩ := own_some ho (by omega)
    obtain ⟨wr, hmem⟩ := hin'
    obtain ⟨⟨pa, pb, pc⟩, hp⟩ : ∃ p, D.getD j pt0 = p := ⟨_, rfl⟩
    have hat : ∀ o, o = j * 3 + 1 → cur[o]? = some (.bool pb) := fun o ho => by
      rw [ho]
      exact h3 _ _ (flat_get ptC 3 (fun _ => rfl) pt0 hlt (i := 1) (by rw [hp]; rfl))
    cases pb
    · repeat' (first | (apply gL; first | (apply Wl.ev rfl rfl; (focus (first | exact ev_move rfl | (apply gLoa; first | exact ev_loadAt (agT rfl) rfl (List.Mem.tail _ hmem) (hat _ (by omega)) | exact ev_load (agT rfl) rfl (by repeat (first | exact List.Mem.head _ | apply List.Mem.tail)) rfl) | (apply gFie; first | exact ev_fieldAddr0 (fldT rfl) rfl | exact ev_fieldAddr (fldT rfl) rfl) | exact ev_assign rfl | exact ev_lti rfl rfl | exact ev_notF rfl | (apply gCal; first | exact ev_len_slice (slT rfl) rfl) | (apply gIxA; first | exact ev_indexAddr (slT rfl) (szT rfl) rfl rfl (by omega))))) | apply Wl.nil) | (apply gQ; first | (apply Wq.ev rfl rfl; (focus (first | exact ev_move rfl | (apply gLoa; first | exact ev_loadAt (agT rfl) rfl (List.Mem.tail _ hmem) (hat _ (by omega)) | exact ev_load (agT rfl) rfl (by repeat (first | exact List.Mem.head _ | apply List.Mem.tail)) rfl) | (apply gFie; first | exact ev_fieldAddr0 (fldT rfl) rfl | exact ev_fieldAddr (fldT rfl) rfl) | exact ev_assign rfl | exact ev_lti rfl rfl | exact ev_notF rfl | (apply gCal; first | exact ev_len_slice (slT rfl) rfl) | (apply gIxA; first | exact ev_indexAddr (slT rfl) (szT rfl) rfl rfl (by omega)))))) | ((show W _ _ _ _ _ _ _ _ _); first | apply W.seq | apply W.region | apply W.block | apply W.skip | (refine W.condT rfl ?_) | (refine W.cond rfl ?_ ?_ <;> (intro h; try (exfalso; first | contradiction | omega | exact h rfl | exact h ⟨rfl, rfl⟩ | (simp_all; done)))) | (refine W.ret1 rfl rfl ?_; intro w hs)))
      all_goals exact ret_eq hs (congrArg Value.bool (cnt_false hlt (by rw [hp])).symm)
    · repeat' (first | (apply gL; first | (apply Wl.ev rfl rfl; (focus (first | exact ev_move rfl | (apply gLoa; first | exact ev_loadAt (agT rfl) rfl (List.Mem.tail _ hmem) (hat _ (by omega)) | exact ev_load (agT rfl) rfl (by repeat (first | exact List.Mem.head _ | apply List.Mem.tail)) rfl) | (apply gFie; first | exact ev_fieldAddr0 (fldT rfl) rfl | exact ev_fieldAddr (fldT rfl) rfl) | exact ev_assign rfl | (apply gBin; first | exact ev_lti rfl rfl | exact ev_add64 rfl rfl (by omega)) | exact ev_notT rfl | (apply gCal; first | exact ev_len_slice (slT rfl) rfl) | (apply gIxA; first | exact ev_indexAddr (slT rfl) (szT rfl) rfl rfl (by omega))))) | apply Wl.nil) | (apply gQ; first | (apply Wq.ev rfl rfl; (focus (first | exact ev_move rfl | (apply gLoa; first | exact ev_loadAt (agT rfl) rfl (List.Mem.tail _ hmem) (hat _ (by omega)) | exact ev_load (agT rfl) rfl (by repeat (first | exact List.Mem.head _ | apply List.Mem.tail)) rfl) | (apply gFie; first | exact ev_fieldAddr0 (fldT rfl) rfl | exact ev_fieldAddr (fldT rfl) rfl) | exact ev_assign rfl | (apply gBin; first | exact ev_lti rfl rfl | exact ev_add64 rfl rfl (by omega)) | exact ev_notT rfl | (apply gCal; first | exact ev_len_slice (slT rfl) rfl) | (apply gIxA; first | exact ev_indexAddr (slT rfl) (szT rfl) rfl rfl (by omega)))))) | ((show W _ _ _ _ _ _ _ _ _); first | apply W.seq | apply W.region | apply W.block | apply W.blk | apply W.skip | (refine W.condF rfl ?_) | (refine W.cond rfl ?_ ?_ <;> (intro h; try (exfalso; first | contradiction | omega | exact h rfl | exact h ⟨rfl, rfl⟩ | (simp_all; done))))))
      exact W.again (j + 1) ⟨hlt, by rw [cnt_snoc D j hlt, hall, hp]; rfl⟩ (by omega) (by repeat (first | exact SubL.nil | refine SubL.cons rfl ?_)) (List.Sublist.refl _)
  · obtain rfl : j = D.length := by omega
    repeat' (first | (apply gL; first | (apply Wl.ev rfl rfl; (focus (first | exact ev_move rfl | (apply gLoa; first | exact ev_load (agT rfl) rfl (by repeat (first | exact List.Mem.head _ | apply List.Mem.tail)) rfl) | (apply gFie; first | exact ev_fieldAddr0 (fldT rfl) rfl) | exact ev_assign rfl | exact ev_lti rfl rfl | (apply gCal; first | exact ev_len_own (slT rfl) ho rfl)))) | apply Wl.nil) | (apply gQ; first | (apply Wq.ev rfl rfl; (focus (first | exact ev_move rfl | (apply gLoa; first | exact ev_load (agT rfl) rfl (by repeat (first | exact List.Mem.head _ | apply List.Mem.tail)) rfl) | (apply gFie; first | exact ev_fieldAddr0 (fldT rfl) rfl) | exact ev_assign rfl | exact ev_lti rfl rfl | (apply gCal; first | exact ev_len_own (slT rfl) ho rfl))))) | ((show W _ _ _ _ _ _ _ _ _); first | apply W.seq | apply W.region | (refine W.exit rfl ?_) | (refine W.cond rfl ?_ ?_ <;> (intro h; try (exfalso; first | contradiction | omega | exact h rfl | exact h ⟨rfl, rfl⟩ | (simp_all; done)))) | (refine W.ret1 rfl rfl ?_; intro w hs)))
    all_goals exact ret_eq hs (by rw [List.take_length] at hall; exact congrArg Value.bool hall.symm)
theorem word11_ok {M : List Nat} {w0 w : World} {H : List Ent} {v : Value} {l : List Tk} (hst : St M w0 w H) (hv : RdE H v l) : Calls Tryd.prog 39 #[v] w (Give (.bool (oneW l).isSome) w) := by
  by_cases h1 : l.length = 1
  · obtain ⟨b, off, c, arr, et, fr, wr, rfl, hm, hc, hg⟩ := hv.ro.cons (by omega)
    obtain ⟨t, rfl⟩ : ∃ t, l = [t] := List.length_eq_one_iff.1 h1
    refine give_of_W (vs := [.slice (some ⟨b, off, none⟩) 1 c]) Tryd.func39 rfl Tryd.ntmps39 (Nat.le_of_ble_eq_true rfl) hst.reads ?_
    simp only [argL]
    have g0 := hg 0 (by simp) 0 _ rfl
    by_cases hk : t.k = 1
    · have ho : oneW [t] = some t.t := by simp [oneW, hk]
      repeat' (first | (apply gL; first | (apply Wl.ev rfl rfl; (focus (first | exact ev_move rfl | (apply gLoa; first | exact ev_loadAt (agT rfl) rfl hm (g0 _ (by omega))) | (apply gFie; first | exact ev_fieldAddr (fldT rfl) rfl) | exact ev_assign rfl | exact ev_pickT rfl rfl | exact ev_eqi rfl rfl | (apply gCal; first | exact ev_len_slice (slT rfl) rfl) | (apply gIxA; first | exact ev_indexAddr (slT rfl) (szT rfl) rfl rfl (by omega))))) | apply Wl.nil) | (apply gQ; first | (apply Wq.ev rfl rfl; (focus (first | exact ev_move rfl | (apply gLoa; first | exact ev_loadAt (agT rfl) rfl hm (g0 _ (by omega))) | (apply gFie; first | exact ev_fieldAddr (fldT rfl) rfl) | exact ev_assign rfl | exact ev_pickT rfl rfl | exact ev_eqi rfl rfl | (apply gCal; first | exact ev_len_slice (slT rfl) rfl) | (apply gIxA; first | exact ev_indexAddr (slT rfl) (szT rfl) rfl rfl (by omega)))))) | ((show W _ _ _ _ _ _ _ _ _); first | apply W.seq | apply W.region | (refine W.ret1 rfl rfl ?_; intro w hs)))
      all_goals exact ret_eq hs (by rw [ho]; simp [hk])
    · have ho : oneW [t] = none := by simp [oneW, hk]
      repeat' (first | (apply gL; first | (apply Wl.ev rfl rfl; (focus (first | exact ev_move rfl | (apply gLoa; first | exact ev_loadAt (agT rfl) rfl hm (g0 _ (by omega))) | (apply gFie; first | exact ev_fieldAddr (fldT rfl) rfl) | exact ev_assign rfl | exact ev_pickT rfl rfl | exact ev_eqi rfl rfl | (apply gCal; first | exact ev_len_slice (slT rfl) rfl) | (apply gIxA; first | exact ev_indexAddr (slT rfl) (szT rfl) rfl rfl (by omega))))) | apply Wl.nil) | (apply gQ; first | (apply Wq.ev rfl rfl; (focus (first | exact ev_move rfl | (apply gLoa; first | exact ev_loadAt (agT rfl) rfl hm (g0 _ (by omega))) | (apply gFie; first | exact ev_fieldAddr (fldT rfl) rfl) | exact ev_assign rfl | exact ev_pickT rfl rfl | exact ev_eqi rfl rfl | (apply gCal; first | exact ev_len_slice (slT rfl) rfl) | (apply gIxA; first | exact ev_indexAddr (slT rfl) (szT rfl) rfl rfl (by omega)))))) | ((show W _ _ _ _ _ _ _ _ _); first | apply W.seq | apply W.region | (refine W.ret1 rfl rfl ?_; intro w hs)))
      all_goals exact ret_eq hs (by rw [ho]; simp [hk])
  · obtain ⟨p, c, rfl⟩ := hv.len
    have ho : oneW l = none := by
      unfold oneW
      split
      · simp at h1
      · rfl
    refine give_of_W (vs := [.slice p l.length c]) Tryd.func39 rfl Tryd.ntmps39 (Nat.le_of_ble_eq_true rfl) (St.nil w _) ?_
    simp only [argL]
    repeat' (first | (apply gL; first | (apply Wl.ev rfl rfl; (focus (first | exact ev_move rfl | exact ev_assign rfl | exact ev_pickF rfl rfl | exact ev_eqi rfl rfl | (apply gCal; first | exact ev_len_slice (slT rfl) rfl)))) | apply Wl.nil | (refine Wl.skip rfl rfl ?_) | ((fail_if_success (apply Wl.chk rfl)); refine Wl.split rfl rfl ?_ ?_ <;> (intro h; try (exfalso; first | contradiction | omega | exact h rfl | exact h ⟨rfl, rfl⟩ | (simp_all; done))))) | (apply gQ; first | (apply Wq.ev rfl rfl; (focus (first | exact ev_move rfl | exact ev_assign rfl | exact ev_pickF rfl rfl | exact ev_eqi rfl rfl | (apply gCal; first | exact ev_len_slice (slT rfl) rfl))))) | ((show W _ _ _ _ _ _ _ _ _); first | apply W.seq | apply W.region | (refine W.ret1 rfl rfl ?_; intro w hs)))
    all_goals exact ret_eq hs (by rw [ho]; rfl)
end Go.Proofs.YthhfandandfeeaaDoor
