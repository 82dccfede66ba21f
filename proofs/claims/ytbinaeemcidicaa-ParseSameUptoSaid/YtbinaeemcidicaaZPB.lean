/- Walks: which token it is; the parser's reader: tokens ahead, tokens taken. No condition. -/
import Derived.Test.YtbinaeemcidicaaZPA
namespace Go.PB
open Go.RowKit
theorem Upd.front {H H' : List Ent} {b : Nat} {o o' : Obj} (h : Upd H b o o' H') : ∃ A, List.Perm H (⟨b, true, o⟩ :: A) ∧ List.Perm H' (⟨b, true, o'⟩ :: A) := by
  obtain ⟨H1, H2, rfl, rfl⟩ := h
  exact ⟨H1 ++ H2, List.perm_middle, List.perm_middle⟩
theorem mem_front {H A : List Ent} {b : Nat} {o : Obj} {p : Ent} (hp : List.Perm H (⟨b, true, o⟩ :: A)) (h : p ∈ H) (hb : p.b ≠ b) : p ∈ A := by
  rcases List.mem_cons.1 (hp.subset h) with rfl | h
  · exact absurd rfl hb
  · exact h
end Go.PB
namespace Go.Proofs.Ytbinaeemcidicaa
open Go.PB Go.RowKit
attribute [local irreducible] Go.Calls
/-- a place in a list of words -/
def idxW (w : List UInt8) : List (List UInt8) → Int
  | [] => -1
  | v :: l => if v = w then 0 else if idxW w l < 0 then -1 else idxW w l + 1
theorem idxW_at {w : List UInt8} : ∀ {l : List (List UInt8)} {j : Nat}, j < l.length → (∀ a ∈ l.take j, ¬a = w) → l.getD j [] = w → idxW w l = j
  | [], j, h, _, _ => by simp at h
  | a :: l, 0, _, _, h => by
    rw [idxW, if_pos (by simpa using h)]
    rfl
  | a :: l, j + 1, hj, h1, h2 => by
    have := idxW_at (l := l) (j := j) (by simpa using hj) (fun b hb => h1 b (by rw [List.take_succ_cons]; exact List.Mem.tail _ hb)) (by simpa using h2)
    rw [idxW, if_neg (h1 a (by rw [List.take_succ_cons]; exact List.Mem.head _)), this, if_neg (by omega)]
    omega
theorem idxW_none {w : List UInt8} : ∀ {l : List (List UInt8)}, (∀ a ∈ l, ¬a = w) → idxW w l = -1
  | [], _ => rfl
  | a :: l, h => by rw [idxW, if_neg (h a (List.Mem.head _)), idxW_none fun b hb => h b (List.Mem.tail _ hb), if_pos (by omega)]
theorem idxW_has (w : List UInt8) : ∀ l : List (List UInt8), (0 ≤ idxW w l) ↔ w ∈ l
  | [] => by simp [idxW]
  | v :: l => by
    have ih := idxW_has w l
    rw [idxW, List.mem_cons]
    by_cases h : v = w
    · rw [if_pos h]
      exact ⟨fun _ => .inl h.symm, fun _ => by omega⟩
    · rw [if_neg h]
      split
      · exact ⟨fun h => by omega, fun e => e.elim (fun e => absurd e.symm h) (fun e => by have := ih.2 e; omega)⟩
      · exact ⟨fun _ => .inr (ih.1 (by omega)), fun _ => by omega⟩
theorem take_snoc_all {α : Type} {P : α → Prop} {l : List α} {j : Nat} {d : α} (hj : j < l.length) (h : ∀ a ∈ l.take j, P a) (h2 : P (l.getD j d)) : ∀ a ∈ l.take (j + 1), P a := by
  rw [List.take_succ_eq_append_getElem hj]
  intro a ha
  rcases List.mem_append.1 ha with ha | ha
  · exact h a ha
  · rw [List.mem_singleton] at ha
    rw [ha]
    simpa [List.getD, hj] using h2
set_option maxRecDepth 100000 in
theorem indexS_ok {M : List Nat} {w0 w : World} {R : List Ent} {v : Value} {l : List (List UInt8)} {s : List UInt8} (hst : St M w0 w R) (hv : RdX R v l.length (strV l)) (hl : l.length ≤ 4611686018427387904) :
    Calls Try.prog 77 #[v, st s] w (Give (.int .i64 (idxW s l)) w) := by
  have hv' := hv.ro
  obtain ⟨q, c, rfl⟩ := hv.len
  refine give_of_W (vs := [.slice q l.length c, st s]) Try.func77 rfl Try.ntmps77 (Nat.le_of_ble_eq_true rfl) hst.reads ?_
  simp only [argL]
  repeat' (first | (apply gL; first | (apply Wl.ev rfl rfl; (focus (first | exact ev_move rfl | exact ev_assign rfl | (apply gCal; first | exact ev_len_slice (slT rfl) rfl)))) | apply Wl.nil) | (apply gQ; first | (apply Wq.ev rfl rfl; (focus (first | exact ev_move rfl | exact ev_assign rfl | (apply gCal; first | exact ev_len_slice (slT rfl) rfl))))) | ((show W _ _ _ _ _ _ _ _ _); first | apply W.seq | (refine W.loop (X := Nat) (fun j => [(0, .slice q l.length c), (1, st s), (7, .int .i64 (l.length : Nat)), (8, .int .i64 (j : Nat))]) (fun _ => ro R) (fun j => j ≤ l.length ∧ ∀ a ∈ l.take j, ¬a = s) (fun j => l.length - j) 0 ⟨Nat.zero_le _, by simp⟩ (by repeat (first | exact SubL.nil | refine SubL.cons rfl ?_)) (List.Sublist.refl _) ?_) | apply W.region | apply W.block))
  rintro j ⟨hj, hall⟩
  by_cases hlt : j < l.length
  · obtain ⟨b, off, c1, arr, et, fr, wr, he, hm, hcc, hgt⟩ := hv'.pos (by omega)
    cases he
    have g0 := hgt j _ (strV_get hlt)
    obtain ⟨y, hy⟩ : ∃ y, l.getD j [] = y := ⟨_, rfl⟩
    rw [hy] at g0
    repeat' (first | (apply gL; first | (apply Wl.ev rfl rfl; (focus (first | exact ev_move rfl | (apply gLoa; first | exact ev_loadAt (agT rfl) rfl hm (g0 _ (by omega))) | exact ev_assign rfl | (apply gBin; first | exact ev_eqs rfl rfl | exact ev_lti rfl rfl | exact ev_add64 rfl rfl (by omega)) | (apply gIxA; first | exact ev_indexAddr (slT rfl) (szT rfl) rfl rfl (by omega))))) | apply Wl.nil) | (apply gQ; first | (apply Wq.ev rfl rfl; (focus (first | exact ev_move rfl | (apply gLoa; first | exact ev_loadAt (agT rfl) rfl hm (g0 _ (by omega))) | exact ev_assign rfl | (apply gBin; first | exact ev_eqs rfl rfl | exact ev_lti rfl rfl | exact ev_add64 rfl rfl (by omega)) | (apply gIxA; first | exact ev_indexAddr (slT rfl) (szT rfl) rfl rfl (by omega)))))) | ((show W _ _ _ _ _ _ _ _ _); first | apply W.seq | apply W.region | apply W.block | apply W.blk | apply W.skip | (refine W.cond rfl ?_ ?_ <;> (intro h; try (exfalso; first | contradiction | omega | exact h rfl | exact h ⟨rfl, rfl⟩ | (simp_all; done)))) | (refine W.ret1 rfl rfl ?_; intro w hs)))
    all_goals first
      | exact W.again (j + 1) ⟨hlt, take_snoc_all (d := []) hlt hall (by rw [hy]; intro e; exact absurd e.symm (by assumption))⟩ (by omega) (by repeat (first | exact SubL.nil | refine SubL.cons rfl ?_)) (List.Sublist.refl _)
      | exact ret_eq hs (by rw [idxW_at hlt hall (by rw [hy]; symm; assumption)])
      | fail
  · obtain rfl : j = l.length := by omega
    rw [List.take_length] at hall
    repeat' (first | (apply gL; first | (apply Wl.ev rfl rfl; (focus (first | exact ev_assign rfl | exact ev_lti rfl rfl))) | apply Wl.nil) | (apply gQ; first | (apply Wq.ev rfl rfl; (focus (first | exact ev_assign rfl | exact ev_lti rfl rfl)))) | ((show W _ _ _ _ _ _ _ _ _); first | apply W.seq | apply W.region | (refine W.exit rfl ?_) | (refine W.cond rfl ?_ ?_ <;> (intro h; try (exfalso; first | contradiction | omega | exact h rfl | exact h ⟨rfl, rfl⟩ | (simp_all; done)))) | (refine W.ret1 rfl rfl ?_; intro w hs)))
    all_goals exact ret_eq hs (by rw [idxW_none hall])
set_option maxRecDepth 100000 in
theorem containsS_ok {M : List Nat} {w0 w : World} {R : List Ent} {v : Value} {l : List (List UInt8)} {s : List UInt8} (hst : St M w0 w R) (hv : RdX R v l.length (strV l)) (hl : l.length ≤ 1000000) :
    Calls Try.prog 60 #[v, st s] w (Give (.bool (l.contains s)) w) := by
  have hv' := hv.ro
  obtain ⟨q, c, rfl⟩ := hv.len
  refine give_of_W (vs := [.slice q l.length c, st s]) Try.func60 rfl Try.ntmps60 (Nat.le_of_ble_eq_true rfl) hst.reads ?_
  simp only [argL]
  repeat' (first | (apply gL; first | (apply Wl.ev rfl rfl; (focus (first | exact ev_move rfl | exact ev_assign rfl | exact ev_gei rfl rfl))) | ((show Wl _ _ _ _ _ _ _ (⟨_, .call ⟨.value (.func 77), _, _⟩, _, _, _, _⟩ :: _) _ _); refine wl_call0 rfl rfl has77 rfl (fun w hs => indexS_ok hs hv' (by omega)) ?_) | apply Wl.nil) | (apply gQ; first | (apply Wq.ev rfl rfl; (focus (first | exact ev_move rfl | exact ev_assign rfl | exact ev_gei rfl rfl)))) | ((show W _ _ _ _ _ _ _ _ _); first | apply W.seq | apply W.region | (refine W.ret1 rfl rfl ?_; intro w hs)))
  all_goals first | exact ret_eq hs (congrArg Value.bool (by rw [Bool.eq_iff_iff, decide_eq_true_iff, List.contains_iff_mem]; exact idxW_has s l)) | fail
set_option maxRecDepth 100000 in
theorem isl_ok {M : List Nat} {w0 w : World} {R : List Ent} {v : Value} {l : List (List UInt8)} {t : Ti} (hst : St M w0 w R) (hv : RdX R v l.length (strV l)) (hl : l.length ≤ 1000000) :
    Calls Try.prog 50 #[tiV t, v] w (Give (.bool (isA l t)) w) := by
  have hv' := hv.ro
  obtain ⟨q, c, rfl⟩ := hv.len
  refine give_of_W (vs := [tiV t, .slice q l.length c]) Try.func50 rfl Try.ntmps50 (Nat.le_of_ble_eq_true rfl) hst.reads ?_
  simp only [argL]
  unfold isA
  obtain ⟨k, tx, x, a, n⟩ := t
  dsimp only [tiV, tiC]
  have hc : ∀ {H : List Ent} (w' : World), St [] w w' H → (∀ p ∈ ro R, p ∈ H) → Calls Try.prog 60 #[.slice q l.length c, st tx] w' (Give (.bool (l.contains tx)) w') := fun {H} w' hs hm => containsS_ok hs (hv'.mono hm) hl
  by_cases h4 : k = 4
  · rw [decide_eq_true h4, Bool.true_or, Bool.true_and]
    repeat' (first | (apply gL; first | (apply Wl.ev rfl rfl; (focus (first | exact ev_move rfl | (apply gLoa; first | exact ev_load (agT rfl) rfl (by repeat (first | exact List.Mem.head _ | apply List.Mem.tail)) rfl) | (apply gFie; first | exact ev_fieldAddr0 (fldT rfl) rfl) | exact ev_assign rfl | exact ev_pickT rfl rfl | (apply gBin; first | exact (ev_eqi rfl rfl).to (congrArg Value.bool (decide_eq_true h4)))))) | ((show Wl _ _ _ _ _ _ _ (⟨some _, .box _ _, _, _, _, _⟩ :: _) _ _); refine wl_box rfl rfl rfl rfl ?_; intro bt) | ((show Wl _ _ _ _ _ _ _ (⟨_, .call ⟨.value (.func 60), _, _⟩, _, _, _, _⟩ :: _) _ _); refine wl_call0 rfl rfl has60 rfl (fun w hs => hc w hs (fun p hp => List.Mem.tail _ hp)) ?_) | apply Wl.nil | (refine Wl.skip rfl rfl ?_)) | (apply gQ; first | (apply Wq.ev rfl rfl; (focus (first | exact ev_move rfl | (apply gLoa; first | exact ev_load (agT rfl) rfl (by repeat (first | exact List.Mem.head _ | apply List.Mem.tail)) rfl) | (apply gFie; first | exact ev_fieldAddr0 (fldT rfl) rfl) | exact ev_assign rfl | exact ev_pickT rfl rfl | (apply gBin; first | exact (ev_eqi rfl rfl).to (congrArg Value.bool (decide_eq_true h4))))))) | ((show W _ _ _ _ _ _ _ _ _); first | apply W.seq | apply W.region | (refine W.ret1 rfl rfl ?_; intro w hs)))
    all_goals first | exact ret_eq hs rfl | contradiction | fail
  · by_cases h1 : k = 1
    · rw [decide_eq_true h1, Bool.or_true, Bool.true_and]
      repeat' (first | (apply gL; first | (apply Wl.ev rfl rfl; (focus (first | exact ev_move rfl | (apply gLoa; first | exact ev_load (agT rfl) rfl (by repeat (first | exact List.Mem.head _ | apply List.Mem.tail)) rfl) | (apply gFie; first | exact ev_fieldAddr0 (fldT rfl) rfl) | exact ev_assign rfl | (apply gPic; first | exact ev_pickT rfl rfl | exact ev_pickF rfl rfl) | (apply gBin; first | exact (ev_eqi rfl rfl).to (congrArg Value.bool (decide_eq_true h1)) | exact (ev_eqi rfl rfl).to (congrArg Value.bool (decide_eq_false h4)))))) | ((show Wl _ _ _ _ _ _ _ (⟨some _, .box _ _, _, _, _, _⟩ :: _) _ _); refine wl_box rfl rfl rfl rfl ?_; intro bt) | ((show Wl _ _ _ _ _ _ _ (⟨_, .call ⟨.value (.func 60), _, _⟩, _, _, _, _⟩ :: _) _ _); refine wl_call0 rfl rfl has60 rfl (fun w hs => hc w hs (fun p hp => List.Mem.tail _ hp)) ?_) | apply Wl.nil) | (apply gQ; first | (apply Wq.ev rfl rfl; (focus (first | exact ev_move rfl | (apply gLoa; first | exact ev_load (agT rfl) rfl (by repeat (first | exact List.Mem.head _ | apply List.Mem.tail)) rfl) | (apply gFie; first | exact ev_fieldAddr0 (fldT rfl) rfl) | exact ev_assign rfl | (apply gPic; first | exact ev_pickT rfl rfl | exact ev_pickF rfl rfl) | (apply gBin; first | exact (ev_eqi rfl rfl).to (congrArg Value.bool (decide_eq_true h1)) | exact (ev_eqi rfl rfl).to (congrArg Value.bool (decide_eq_false h4))))))) | ((show W _ _ _ _ _ _ _ _ _); first | apply W.seq | apply W.region | (refine W.ret1 rfl rfl ?_; intro w hs)))
      all_goals first | exact ret_eq hs rfl | contradiction | fail
    · rw [decide_eq_false h4, decide_eq_false h1, Bool.false_or, Bool.false_and]
      repeat' (first | (apply gL; first | (apply Wl.ev rfl rfl; (focus (first | exact ev_move rfl | (apply gLoa; first | exact ev_load (agT rfl) rfl (by repeat (first | exact List.Mem.head _ | apply List.Mem.tail)) rfl) | (apply gFie; first | exact ev_fieldAddr0 (fldT rfl) rfl) | exact ev_assign rfl | exact ev_pickF rfl rfl | (apply gBin; first | exact (ev_eqi rfl rfl).to (congrArg Value.bool (decide_eq_false h1)) | exact (ev_eqi rfl rfl).to (congrArg Value.bool (decide_eq_false h4)))))) | ((show Wl _ _ _ _ _ _ _ (⟨some _, .box _ _, _, _, _, _⟩ :: _) _ _); refine wl_box rfl rfl rfl rfl ?_; intro bt) | apply Wl.nil | (refine Wl.skip rfl rfl ?_)) | (apply gQ; first | (apply Wq.ev rfl rfl; (focus (first | exact ev_move rfl | (apply gLoa; first | exact ev_load (agT rfl) rfl (by repeat (first | exact List.Mem.head _ | apply List.Mem.tail)) rfl) | (apply gFie; first | exact ev_fieldAddr0 (fldT rfl) rfl) | exact ev_assign rfl | exact ev_pickF rfl rfl | (apply gBin; first | exact (ev_eqi rfl rfl).to (congrArg Value.bool (decide_eq_false h1)) | exact (ev_eqi rfl rfl).to (congrArg Value.bool (decide_eq_false h4))))))) | ((show W _ _ _ _ _ _ _ _ _); first | apply W.seq | apply W.region | (refine W.ret1 rfl rfl ?_; intro w hs)))
      all_goals first | exact ret_eq hs rfl | contradiction | fail
/-- the tokens may be read, their numbers are a number's, and no block of theirs is the reader's -/
def TokE (TR : List Ent) (r : Nat) (lv : Value) (L : List Ti) : Prop := RdX TR lv L.length (tisC L) ∧ (∀ p ∈ TR, p.b ≠ r) ∧ L.length ≤ 1000000 ∧ ∀ t ∈ L, -2147483648 < t.x ∧ t.x ≤ 2147483647
theorem all_one_cons {v : Value} {l : List Value} (h : v.oneCell' = true) (hl : l.all (·.oneCell') = true) : (v :: l).all (·.oneCell') = true := by rw [List.all_cons, h, hl]; rfl
set_option maxRecDepth 100000 in
theorem ppeek_ok {M : List Nat} {w0 w : World} {H TR : List Ent} {r a k : Nat} {wr : Bool} {lv : Value} {L : List Ti} (hst : St M w0 w H) (hr : (⟨r, wr, rdP lv a⟩ : Ent) ∈ H) (hT : TokE TR r lv L) (hm : ∀ p ∈ TR, p ∈ H) (ha : a ≤ L.length) (hk : k ≤ 1) :
    Calls Try.prog 46 #[ptr r, .int .i64 (k : Nat)] w (Give (tiV ((L.drop (a + k)).headD ti0)) w) := by
  obtain ⟨hT1, hT2, hT3, _⟩ := hT
  have hv' := hT1.ro
  have hm' : ∀ p ∈ ro TR, p ∈ ro H := fun p hp => by
    obtain ⟨q, hq, rfl⟩ := List.mem_map.1 hp
    exact List.mem_map.2 ⟨q, hm q hq, rfl⟩
  have hr' := mem_ro hr
  obtain ⟨q, c, rfl⟩ := hT1.len
  refine give_of_W (vs := [ptr r, .int .i64 (k : Nat)]) Try.func46 rfl Try.ntmps46 (Nat.le_of_ble_eq_true rfl) hst.reads ?_
  simp only [argL]
  by_cases hlt : a + k < L.length
  · obtain ⟨b, off, c1, arr, et, fr, wr, he, hmm, hcc, hgt⟩ := hv'.pos (by omega)
    cases he
    have g0 : ∀ (f : Nat) u, (tiC (L.getD (a + k) ti0))[f]? = some u → ∀ o, o = off + ((a + k) * 5 + f) → arr[o]? = some u := fun f u h => hgt _ _ (tisC_get hlt h)
    have hh : (L.drop (a + k)).headD ti0 = L.getD (a + k) ti0 := by
      rw [List.drop_eq_getElem_cons hlt]
      simp [List.getD, hlt]
    rw [hh]
    obtain ⟨t, ht⟩ : ∃ t, L.getD (a + k) ti0 = t := ⟨_, rfl⟩
    rw [ht] at g0 ⊢
    repeat' (first | (apply gL; first | (apply Wl.ev rfl rfl; (focus (first | exact ev_move rfl | (apply gLoa; first | exact ev_load (agT rfl) rfl (List.Mem.tail _ hr') rfl | exact (ev_loadAggAt (agT rfl) (szT rfl) rfl (List.Mem.tail _ (hm' _ hmm)) (fun i v h => g0 i v h _ (by omega)) rfl).to (show _ = tiV t from rfl)) | (apply gFie; first | exact ev_fieldAddr0 (fldT rfl) rfl) | (apply gBin; first | exact ev_lti rfl rfl | exact ev_add64 rfl rfl (by omega)) | (apply gCal; first | exact ev_len_slice (slT rfl) rfl) | (apply gIxA; first | exact ev_indexAddr (slT rfl) (szT rfl) rfl rfl (by omega)) | exact ev_nilCheck_ptr rfl))) | (refine wl_storeWhole rfl rfl rfl (szT rfl) (by repeat (first | rfl | refine all_one_cons ?_ ?_)) (by repeat (first | exact Upd.here | apply Upd.there)) (by rfl) ?_) | apply Wl.nil | (refine wl_alloc rfl rfl (zeroT rfl) ?_; intro b)) | (apply gQ; first | (apply Wq.ev rfl rfl; (focus (first | exact ev_move rfl | (apply gLoa; first | exact ev_load (agT rfl) rfl (List.Mem.tail _ hr') rfl | exact (ev_loadAggAt (agT rfl) (szT rfl) rfl (List.Mem.tail _ (hm' _ hmm)) (fun i v h => g0 i v h _ (by omega)) rfl).to (show _ = tiV t from rfl)) | (apply gFie; first | exact ev_fieldAddr0 (fldT rfl) rfl) | (apply gBin; first | exact ev_lti rfl rfl | exact ev_add64 rfl rfl (by omega)) | (apply gCal; first | exact ev_len_slice (slT rfl) rfl) | (apply gIxA; first | exact ev_indexAddr (slT rfl) (szT rfl) rfl rfl (by omega)) | exact ev_nilCheck_ptr rfl))) | ((show Wq _ _ (Qt _ _ _ _) _ _ _ _ [] _ _); apply Wq.tail) | apply Wq.nil) | ((show W _ _ _ _ _ _ _ _ _); first | apply W.seq | ((show W _ _ _ _ _ _ (.inl (.region 2 _ true) :: _) _ _); refine W.regionT 12 mixed (by kernel_rfl) rfl rfl ?_) | (refine W.regionQ mixed (by kernel_rfl) ?_) | apply W.region | (refine W.cond rfl ?_ ?_ <;> (intro h; try (exfalso; first | contradiction | omega | exact h rfl | exact h ⟨rfl, rfl⟩ | (exact Bool.false_ne_true ((by assumption : _ = false).symm.trans h)) | (exact Bool.false_ne_true (h.symm.trans (by assumption)))))) | (refine W.retc rfl rfl (agT rfl) (by repeat (first | exact List.Mem.head _ | apply List.Mem.tail)) (szT rfl) ?_; intro w hs)))
    all_goals first | exact ret_eq hs rfl | (exfalso; omega) | fail
  · have hh : (L.drop (a + k)).headD ti0 = ti0 := by rw [List.drop_of_length_le (by omega)]; rfl
    rw [hh]
    repeat' (first | (apply gL; first | (apply Wl.ev rfl rfl; (focus (first | exact ev_move rfl | (apply gLoa; first | exact ev_load (agT rfl) rfl (List.Mem.tail _ hr') rfl) | (apply gFie; first | exact ev_fieldAddr0 (fldT rfl) rfl) | (apply gBin; first | exact ev_lti rfl rfl | exact ev_add64 rfl rfl (by omega)) | (apply gBui; first | (apply ev_build (bldT rfl) rfl; simp [fillP]; rfl)) | (apply gCal; first | exact ev_len_slice (slT rfl) rfl) | exact ev_nilCheck_ptr rfl))) | (refine wl_storeWhole rfl rfl rfl (szT rfl) (by repeat (first | rfl | refine all_one_cons ?_ ?_)) (by repeat (first | exact Upd.here | apply Upd.there)) (by rfl) ?_) | apply Wl.nil | (refine wl_alloc rfl rfl (zeroT rfl) ?_; intro b)) | (apply gQ; first | (apply Wq.ev rfl rfl; (focus (first | exact ev_move rfl | (apply gLoa; first | exact ev_load (agT rfl) rfl (List.Mem.tail _ hr') rfl) | (apply gFie; first | exact ev_fieldAddr0 (fldT rfl) rfl) | (apply gBin; first | exact ev_lti rfl rfl | exact ev_add64 rfl rfl (by omega)) | (apply gBui; first | (apply ev_build (bldT rfl) rfl; simp [fillP]; rfl)) | (apply gCal; first | exact ev_len_slice (slT rfl) rfl) | exact ev_nilCheck_ptr rfl))) | apply Wq.nil) | ((show W _ _ _ _ _ _ _ _ _); first | apply W.seq | (refine W.regionQ mixed (by kernel_rfl) ?_) | apply W.region | apply W.skip | (refine W.cond rfl ?_ ?_ <;> (intro h; try (exfalso; first | contradiction | omega | exact h rfl | exact h ⟨rfl, rfl⟩ | (exact Bool.false_ne_true ((by assumption : _ = false).symm.trans h)) | (exact Bool.false_ne_true (h.symm.trans (by assumption)))))) | (refine W.retc rfl rfl (agT rfl) (by repeat (first | exact List.Mem.head _ | apply List.Mem.tail)) (szT rfl) ?_; intro w hs)))
    all_goals first | exact ret_eq hs rfl | (exfalso; omega) | fail
end Go.Proofs.Ytbinaeemcidicaa
