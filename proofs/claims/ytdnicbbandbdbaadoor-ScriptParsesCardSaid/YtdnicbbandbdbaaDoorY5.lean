/- Walks: a text's first line, as the document reads it. No condition. -/
import Derived.Test.YtdnicbbandbdbaaDoorY4
namespace Go.Proofs.YtdnicbbandbdbaaDoor
open Go.PB Go.RowKit
attribute [local irreducible] Go.Calls
theorem strV_len (l : List (List UInt8)) : (strV l).length = l.length := by simp [strV]
theorem strV_at {l : List (List UInt8)} {i : Nat} {p : List UInt8} (h : l[i]? = some p) : (strV l)[i]? = some (st p) := by simp [strV, h]
theorem join_sub : ∀ (l : List (List UInt8)), (∀ p ∈ l, p.length ≤ (joinS l).length) ∧ l.length ≤ (joinS l).length + 1
  | [] => ⟨fun p hp => (by cases hp), Nat.zero_le _⟩
  | w :: l => by
    have hj : (joinS (w :: l)).length = w.length + (l.flatMap (32 :: ·)).length := by rw [join_flat, List.length_append]
    have key : ∀ m : List (List UInt8), (∀ p ∈ m, p.length ≤ (m.flatMap (32 :: ·)).length) ∧ m.length ≤ (m.flatMap (32 :: ·)).length := by
      intro m
      induction m with
      | nil => exact ⟨fun p hp => (by cases hp), Nat.zero_le _⟩
      | cons a m ih =>
        rw [List.flatMap_cons, List.length_append, List.length_cons, List.length_cons]
        refine ⟨fun p hp => ?_, by have := ih.2; omega⟩
        rcases List.mem_cons.1 hp with rfl | hp
        · omega
        · have := ih.1 p hp; omega
    have k := key l
    rw [hj, List.length_cons]
    refine ⟨fun p hp => ?_, by have := k.2; omega⟩
    rcases List.mem_cons.1 hp with rfl | hp
    · omega
    · have := k.1 p hp; omega
theorem parts_sub (s : List UInt8) : (∀ p ∈ partsR s, p.length ≤ s.length) ∧ (partsR s).length ≤ s.length + 1 := by
  have := join_sub (partsR s)
  rw [show joinS (partsR s) = s by unfold partsR; rw [parts_join]; rfl] at this
  exact this
set_option maxRecDepth 100000 in
set_option maxHeartbeats 8000000 in
theorem canvas28_ok (s : List UInt8) (hsl : s.length ≤ 900000) (w : World) : Calls Tryd.prog 50 #[st s] w (canRes s w) := by
  refine calls_of_W (vs := [st s]) Tryd.func50 rfl Tryd.ntmps50 (Nat.le_of_ble_eq_true rfl) (St.nil w []) ?_
  simp only [argL]
  have hpt : ∀ w, Calls Tryd.prog 67 #[st s] w (ptsR s w) := fun w => parts28_ok s (by omega) w
  unfold ptsR at hpt
  have hcan : canP s = canR s := (can_eq s).symm
  have hsub := parts_sub s
  have hne : partsR s ≠ [] := parts_ne _ _
  unfold canR at hcan
  obtain ⟨l, hl⟩ : ∃ l, partsR s = l := ⟨_, rfl⟩
  rw [hl] at hpt hcan hsub hne
  have hlp := List.length_pos_iff.2 hne
  by_cases h3 : l.length = 3
  case neg =>
    have hno : canP s = none := by
      rw [hcan]
      match l, h3 with
      | [], _ => rfl
      | [_], _ => rfl
      | [_, _], _ => rfl
      | [_, _, _], h => exact absurd rfl h
      | _ :: _ :: _ :: _ :: _, _ => rfl
    repeat' (first | (apply gL; first | (apply Wl.ev rfl rfl; (focus (first | exact ev_move rfl | exact ev_assign rfl | exact ev_pickT rfl rfl | exact ev_nei rfl rfl | (apply gCal; first | exact ev_len_slice (slT rfl) rfl)))) | ((show Wl _ _ _ _ _ _ _ (⟨some 11, .call _, _, _, _, _⟩ :: _) _ _); refine wl_callX rfl rfl has67 rfl (fun w hs => hpt w) ?_; intro po hpo; obtain ⟨q, qc, qq, rfl, _⟩ := own_some hpo (by omega); try simp only [ents_owN, ownH, List.cons_append, List.nil_append]) | apply Wl.nil | (refine Wl.skip rfl rfl ?_) | ((fail_if_success (apply Wl.chk rfl)); refine Wl.split rfl rfl ?_ ?_ <;> (intro h; try (exfalso; first | contradiction | omega | exact h rfl | exact h ⟨rfl, rfl⟩ | (exact Bool.false_ne_true ((by assumption : _ = false).symm.trans h)) | (exact Bool.false_ne_true (h.symm.trans (by assumption))))))) | (apply gQ; first | (apply Wq.ev rfl rfl; (focus (first | exact ev_move rfl | exact ev_assign rfl | exact ev_pickT rfl rfl | exact ev_nei rfl rfl | (apply gCal; first | exact ev_len_slice (slT rfl) rfl))))) | ((show W _ _ _ _ _ _ _ _ _); first | apply W.seq | apply W.region | (refine W.condT rfl ?_) | (refine W.ret3 rfl rfl rfl rfl ?_; intro w hs)))
    all_goals first
      | exact can_fin hs (fun x h => by rw [hno] at h; cases h) (by rw [hno]; rfl)
      | (exfalso; omega)
      | fail
  obtain ⟨p0, p1, p2, hl3⟩ : ∃ p0 p1 p2, l = [p0, p1, p2] := by
    match l, h3 with
    | [a, b, c], _ => exact ⟨a, b, c, rfl⟩
  have h0 : l[0]? = some p0 := by rw [hl3]; rfl
  have h1 : l[1]? = some p1 := by rw [hl3]; rfl
  have h2 : l[2]? = some p2 := by rw [hl3]; rfl
  have hl1 := hsub.1 p1 (by rw [hl3]; simp)
  have hl2 := hsub.1 p2 (by rw [hl3]; simp)
  rw [hl3] at hcan
  dsimp only at hcan
  clear hl3
  by_cases hc : p0 = canW
  case neg =>
    have hno : canP s = none := by rw [hcan, if_pos hc]
    have hc' : ¬p0 = [99, 97, 110, 118, 97, 115] := hc
    repeat' (first | (apply gL; first | (apply Wl.ev rfl rfl; (focus (first | exact ev_move rfl | (apply gLoa; first | exact ev_loadAt (agT rfl) rfl (by repeat (first | exact List.Mem.head _ | apply List.Mem.tail)) (own_at (v := st p0) hpo (strV_at h0)) | exact ev_loadAt (agT rfl) rfl (by repeat (first | exact List.Mem.head _ | apply List.Mem.tail)) (own_at (v := st p1) hpo (strV_at h1)) | exact ev_loadAt (agT rfl) rfl (by repeat (first | exact List.Mem.head _ | apply List.Mem.tail)) (own_at (v := st p2) hpo (strV_at h2))) | exact ev_assign rfl | exact ev_pickF rfl rfl | (apply gBin; first | exact ev_nei rfl rfl | exact ev_nes rfl rfl) | (apply gCal; first | exact ev_len_slice (slT rfl) rfl) | (apply gIxA; first | exact ev_indexAddr (m := l.length) (slT rfl) (szT rfl) rfl rfl (by omega))))) | ((show Wl _ _ _ _ _ _ _ (⟨some 11, .call _, _, _, _, _⟩ :: _) _ _); refine wl_callX rfl rfl has67 rfl (fun w hs => hpt w) ?_; intro po hpo; obtain ⟨q, qc, qq, rfl, _⟩ := own_some hpo (by omega); try simp only [ents_owN, ownH, List.cons_append, List.nil_append]) | apply Wl.nil | ((fail_if_success (apply Wl.chk rfl)); refine Wl.split rfl rfl ?_ ?_ <;> (intro h; try (exfalso; first | contradiction | omega | exact h rfl | exact h ⟨rfl, rfl⟩ | (exact Bool.false_ne_true ((by assumption : _ = false).symm.trans h)) | (exact Bool.false_ne_true (h.symm.trans (by assumption))))))) | (apply gQ; first | (apply Wq.ev rfl rfl; (focus (first | exact ev_move rfl | (apply gLoa; first | exact ev_loadAt (agT rfl) rfl (by repeat (first | exact List.Mem.head _ | apply List.Mem.tail)) (own_at (v := st p0) hpo (strV_at h0)) | exact ev_loadAt (agT rfl) rfl (by repeat (first | exact List.Mem.head _ | apply List.Mem.tail)) (own_at (v := st p1) hpo (strV_at h1)) | exact ev_loadAt (agT rfl) rfl (by repeat (first | exact List.Mem.head _ | apply List.Mem.tail)) (own_at (v := st p2) hpo (strV_at h2))) | exact ev_assign rfl | exact ev_pickF rfl rfl | (apply gBin; first | exact ev_nei rfl rfl | exact ev_nes rfl rfl) | (apply gCal; first | exact ev_len_slice (slT rfl) rfl) | (apply gIxA; first | exact ev_indexAddr (m := l.length) (slT rfl) (szT rfl) rfl rfl (by omega)))))) | ((show W _ _ _ _ _ _ _ _ _); first | apply W.seq | apply W.region | (refine W.cond rfl ?_ ?_ <;> (intro h; try (exfalso; first | contradiction | omega | exact h rfl | exact h ⟨rfl, rfl⟩ | (exact Bool.false_ne_true ((by assumption : _ = false).symm.trans h)) | (exact Bool.false_ne_true (h.symm.trans (by assumption)))))) | (refine W.ret3 rfl rfl rfl rfl ?_; intro w hs)))
    all_goals first
      | exact can_fin hs (fun x h => by rw [hno] at h; cases h) (by rw [hno]; rfl)
      | contradiction
      | (exfalso; omega)
      | fail
  have hc' : p0 = [99, 97, 110, 118, 97, 115] := hc
  rw [if_neg (fun h => h hc)] at hcan
  have hn1 : ∀ w, Calls Tryd.prog 68 #[st p1] w (numRS p1 w) := fun w => num28_ok p1 (by omega) w
  have hn2 : ∀ w, Calls Tryd.prog 68 #[st p2] w (numRS p2 w) := fun w => num28_ok p2 (by omega) w
  unfold numRS at hn1 hn2
  cases e1 : numR p1 with
  | none =>
    rw [e1] at hcan hn1
    have hno : canP s = none := hcan
    repeat' (first | (apply gL; first | (apply Wl.ev rfl rfl; (focus (first | exact ev_move rfl | (apply gLoa; first | exact ev_loadAt (agT rfl) rfl (by repeat (first | exact List.Mem.head _ | apply List.Mem.tail)) (own_at (v := st p0) hpo (strV_at h0)) | exact ev_loadAt (agT rfl) rfl (by repeat (first | exact List.Mem.head _ | apply List.Mem.tail)) (own_at (v := st p1) hpo (strV_at h1)) | exact ev_loadAt (agT rfl) rfl (by repeat (first | exact List.Mem.head _ | apply List.Mem.tail)) (own_at (v := st p2) hpo (strV_at h2))) | exact ev_assign rfl | exact ev_pickF rfl rfl | (apply gBin; first | exact ev_nei rfl rfl | exact ev_nes rfl rfl) | exact ev_extract rfl rfl | (apply gCal; first | exact ev_len_slice (slT rfl) rfl) | (apply gIxA; first | exact ev_indexAddr (m := l.length) (slT rfl) (szT rfl) rfl rfl (by omega))))) | ((show Wl _ _ _ _ _ _ _ (⟨some 11, .call _, _, _, _, _⟩ :: _) _ _); refine wl_callX rfl rfl has67 rfl (fun w hs => hpt w) ?_; intro po hpo; obtain ⟨q, qc, qq, rfl, _⟩ := own_some hpo (by omega); try simp only [ents_owN, ownH, List.cons_append, List.nil_append]) | ((show Wl _ _ _ _ _ _ _ (⟨some 25, .call _, _, _, _, _⟩ :: _) _ _); refine wl_callX rfl rfl has68 rfl (fun w hs => hn1 w) ?_; intro v1 hv1; try simp only [ents, List.map_nil, List.nil_append]) | ((show Wl _ _ _ _ _ _ _ (⟨some 32, .call _, _, _, _, _⟩ :: _) _ _); refine wl_callX rfl rfl has68 rfl (fun w hs => hn2 w) ?_; intro v2 hv2; try simp only [ents, List.map_nil, List.nil_append]) | apply Wl.nil | (refine Wl.skip rfl rfl ?_) | ((fail_if_success (apply Wl.chk rfl)); refine Wl.split rfl rfl ?_ ?_ <;> (intro h; try (exfalso; first | contradiction | omega | exact h rfl | exact h ⟨rfl, rfl⟩ | (exact Bool.false_ne_true ((by assumption : _ = false).symm.trans h)) | (exact Bool.false_ne_true (h.symm.trans (by assumption))))))) | (apply gQ; first | (apply Wq.ev rfl rfl; (focus (first | exact ev_move rfl | (apply gLoa; first | exact ev_loadAt (agT rfl) rfl (by repeat (first | exact List.Mem.head _ | apply List.Mem.tail)) (own_at (v := st p0) hpo (strV_at h0)) | exact ev_loadAt (agT rfl) rfl (by repeat (first | exact List.Mem.head _ | apply List.Mem.tail)) (own_at (v := st p1) hpo (strV_at h1)) | exact ev_loadAt (agT rfl) rfl (by repeat (first | exact List.Mem.head _ | apply List.Mem.tail)) (own_at (v := st p2) hpo (strV_at h2))) | exact ev_assign rfl | exact ev_pickF rfl rfl | (apply gBin; first | exact ev_nei rfl rfl | exact ev_nes rfl rfl) | exact ev_extract rfl rfl | (apply gCal; first | exact ev_len_slice (slT rfl) rfl) | (apply gIxA; first | exact ev_indexAddr (m := l.length) (slT rfl) (szT rfl) rfl rfl (by omega)))))) | ((show W _ _ _ _ _ _ _ _ _); first | apply W.seq | apply W.region | apply W.skip | (refine W.cond rfl ?_ ?_ <;> (intro h; try (exfalso; first | contradiction | omega | exact h rfl | exact h ⟨rfl, rfl⟩ | (exact Bool.false_ne_true ((by assumption : _ = false).symm.trans h)) | (exact Bool.false_ne_true (h.symm.trans (by assumption)))))) | (refine W.ret3 rfl rfl rfl rfl ?_; intro w hs)))
    all_goals first
      | exact can_fin hs (fun x h => by rw [hno] at h; cases h) (by rw [hno]; rfl)
      | contradiction
      | (exfalso; omega)
      | fail
  | some a =>
    cases e2 : numR p2 with
    | none =>
      rw [e1, e2] at hcan
      rw [e1] at hn1
      rw [e2] at hn2
      have hno : canP s = none := hcan
      repeat' (first | (apply gL; first | (apply Wl.ev rfl rfl; (focus (first | exact ev_move rfl | (apply gLoa; first | exact ev_loadAt (agT rfl) rfl (by repeat (first | exact List.Mem.head _ | apply List.Mem.tail)) (own_at (v := st p0) hpo (strV_at h0)) | exact ev_loadAt (agT rfl) rfl (by repeat (first | exact List.Mem.head _ | apply List.Mem.tail)) (own_at (v := st p1) hpo (strV_at h1)) | exact ev_loadAt (agT rfl) rfl (by repeat (first | exact List.Mem.head _ | apply List.Mem.tail)) (own_at (v := st p2) hpo (strV_at h2))) | exact ev_assign rfl | (apply gPic; first | exact ev_pickT rfl rfl | exact ev_pickF rfl rfl) | (apply gBin; first | exact ev_nei rfl rfl | exact ev_nes rfl rfl) | exact ev_extract rfl rfl | (apply gCal; first | exact ev_len_slice (slT rfl) rfl) | (apply gIxA; first | exact ev_indexAddr (m := l.length) (slT rfl) (szT rfl) rfl rfl (by omega))))) | ((show Wl _ _ _ _ _ _ _ (⟨some 11, .call _, _, _, _, _⟩ :: _) _ _); refine wl_callX rfl rfl has67 rfl (fun w hs => hpt w) ?_; intro po hpo; obtain ⟨q, qc, qq, rfl, _⟩ := own_some hpo (by omega); try simp only [ents_owN, ownH, List.cons_append, List.nil_append]) | ((show Wl _ _ _ _ _ _ _ (⟨some 25, .call _, _, _, _, _⟩ :: _) _ _); refine wl_callX rfl rfl has68 rfl (fun w hs => hn1 w) ?_; intro v1 hv1; try simp only [ents, List.map_nil, List.nil_append]) | ((show Wl _ _ _ _ _ _ _ (⟨some 32, .call _, _, _, _, _⟩ :: _) _ _); refine wl_callX rfl rfl has68 rfl (fun w hs => hn2 w) ?_; intro v2 hv2; try simp only [ents, List.map_nil, List.nil_append]) | apply Wl.nil | (refine Wl.skip rfl rfl ?_) | ((fail_if_success (apply Wl.chk rfl)); refine Wl.split rfl rfl ?_ ?_ <;> (intro h; try (exfalso; first | contradiction | omega | exact h rfl | exact h ⟨rfl, rfl⟩ | (exact Bool.false_ne_true ((by assumption : _ = false).symm.trans h)) | (exact Bool.false_ne_true (h.symm.trans (by assumption))))))) | (apply gQ; first | (apply Wq.ev rfl rfl; (focus (first | exact ev_move rfl | (apply gLoa; first | exact ev_loadAt (agT rfl) rfl (by repeat (first | exact List.Mem.head _ | apply List.Mem.tail)) (own_at (v := st p0) hpo (strV_at h0)) | exact ev_loadAt (agT rfl) rfl (by repeat (first | exact List.Mem.head _ | apply List.Mem.tail)) (own_at (v := st p1) hpo (strV_at h1)) | exact ev_loadAt (agT rfl) rfl (by repeat (first | exact List.Mem.head _ | apply List.Mem.tail)) (own_at (v := st p2) hpo (strV_at h2))) | exact ev_assign rfl | (apply gPic; first | exact ev_pickT rfl rfl | exact ev_pickF rfl rfl) | (apply gBin; first | exact ev_nei rfl rfl | exact ev_nes rfl rfl) | exact ev_extract rfl rfl | (apply gCal; first | exact ev_len_slice (slT rfl) rfl) | (apply gIxA; first | exact ev_indexAddr (m := l.length) (slT rfl) (szT rfl) rfl rfl (by omega)))))) | ((show W _ _ _ _ _ _ _ _ _); first | apply W.seq | apply W.region | apply W.skip | (refine W.cond rfl ?_ ?_ <;> (intro h; try (exfalso; first | contradiction | omega | exact h rfl | exact h ⟨rfl, rfl⟩ | (exact Bool.false_ne_true ((by assumption : _ = false).symm.trans h)) | (exact Bool.false_ne_true (h.symm.trans (by assumption)))))) | (refine W.ret3 rfl rfl rfl rfl ?_; intro w hs)))
      all_goals first
        | exact can_fin hs (fun x h => by rw [hno] at h; cases h) (by rw [hno]; rfl)
        | contradiction
        | (exfalso; omega)
        | fail
    | some b =>
      rw [e1, e2] at hcan
      rw [e1] at hn1
      rw [e2] at hn2
      dsimp only at hcan
      have hx : ∀ x, canP s = some x → (a, b) = x := fun x h => by
        rw [hcan] at h
        split at h
        · exact Option.some.inj h
        · cases h
      have hI : (canP s).isSome = decide (1 ≤ a ∧ a ≤ 64 ∧ 1 ≤ b ∧ b ≤ 64) := by
        rw [hcan]
        unfold sideP
        by_cases h : (1 ≤ a ∧ a ≤ 64) ∧ (1 ≤ b ∧ b ≤ 64)
        · rw [if_pos h, decide_eq_true (by omega)]; rfl
        · rw [if_neg h, decide_eq_false (by omega)]; rfl
      repeat' (first | (apply gL; first | (apply Wl.ev rfl rfl; (focus (first | exact ev_move rfl | (apply gLoa; first | exact ev_loadAt (agT rfl) rfl (by repeat (first | exact List.Mem.head _ | apply List.Mem.tail)) (own_at (v := st p0) hpo (strV_at h0)) | exact ev_loadAt (agT rfl) rfl (by repeat (first | exact List.Mem.head _ | apply List.Mem.tail)) (own_at (v := st p1) hpo (strV_at h1)) | exact ev_loadAt (agT rfl) rfl (by repeat (first | exact List.Mem.head _ | apply List.Mem.tail)) (own_at (v := st p2) hpo (strV_at h2))) | exact ev_assign rfl | (apply gPic; first | exact ev_pickT rfl rfl | exact ev_pickF rfl rfl) | (apply gBin; first | exact ev_nei rfl rfl | exact ev_nes rfl rfl | exact ev_lei rfl rfl | exact ev_gei rfl rfl) | exact ev_extract rfl rfl | (apply gCal; first | exact ev_len_slice (slT rfl) rfl) | (apply gIxA; first | exact ev_indexAddr (m := l.length) (slT rfl) (szT rfl) rfl rfl (by omega))))) | ((show Wl _ _ _ _ _ _ _ (⟨some 11, .call _, _, _, _, _⟩ :: _) _ _); refine wl_callX rfl rfl has67 rfl (fun w hs => hpt w) ?_; intro po hpo; obtain ⟨q, qc, qq, rfl, _⟩ := own_some hpo (by omega); try simp only [ents_owN, ownH, List.cons_append, List.nil_append]) | (((show Wl _ _ _ _ _ _ _ (⟨some 25, .call _, _, _, _, _⟩ :: _) _ _); refine wl_callX rfl rfl has68 rfl (fun w hs => hn1 w) ?_; intro v1 hv1; try simp only [ents, List.map_nil, List.nil_append]); obtain rfl : v1 = a := hv1 a rfl) | (((show Wl _ _ _ _ _ _ _ (⟨some 32, .call _, _, _, _, _⟩ :: _) _ _); refine wl_callX rfl rfl has68 rfl (fun w hs => hn2 w) ?_; intro v2 hv2; try simp only [ents, List.map_nil, List.nil_append]); obtain rfl : v2 = b := hv2 b rfl) | apply Wl.nil | (refine Wl.skip rfl rfl ?_) | ((fail_if_success (apply Wl.chk rfl)); refine Wl.split rfl rfl ?_ ?_ <;> (intro h; try (exfalso; first | contradiction | omega | exact h rfl | exact h ⟨rfl, rfl⟩ | (exact Bool.false_ne_true ((by assumption : _ = false).symm.trans h)) | (exact Bool.false_ne_true (h.symm.trans (by assumption))))))) | (apply gQ; first | (apply Wq.ev rfl rfl; (focus (first | exact ev_move rfl | (apply gLoa; first | exact ev_loadAt (agT rfl) rfl (by repeat (first | exact List.Mem.head _ | apply List.Mem.tail)) (own_at (v := st p0) hpo (strV_at h0)) | exact ev_loadAt (agT rfl) rfl (by repeat (first | exact List.Mem.head _ | apply List.Mem.tail)) (own_at (v := st p1) hpo (strV_at h1)) | exact ev_loadAt (agT rfl) rfl (by repeat (first | exact List.Mem.head _ | apply List.Mem.tail)) (own_at (v := st p2) hpo (strV_at h2))) | exact ev_assign rfl | (apply gPic; first | exact ev_pickT rfl rfl | exact ev_pickF rfl rfl) | (apply gBin; first | exact ev_nei rfl rfl | exact ev_nes rfl rfl | exact ev_lei rfl rfl | exact ev_gei rfl rfl) | exact ev_extract rfl rfl | (apply gCal; first | exact ev_len_slice (slT rfl) rfl) | (apply gIxA; first | exact ev_indexAddr (m := l.length) (slT rfl) (szT rfl) rfl rfl (by omega)))))) | ((show W _ _ _ _ _ _ _ _ _); first | apply W.seq | apply W.region | apply W.skip | (refine W.cond rfl ?_ ?_ <;> (intro h; try (exfalso; first | contradiction | omega | exact h rfl | exact h ⟨rfl, rfl⟩ | (exact Bool.false_ne_true ((by assumption : _ = false).symm.trans h)) | (exact Bool.false_ne_true (h.symm.trans (by assumption)))))) | (refine W.ret3 rfl rfl rfl rfl ?_; intro w hs)))
      all_goals first
        | exact can_fin hs hx (by rw [hI]; symm; exact decide_eq_false (by omega))
        | exact can_fin hs hx (by rw [hI]; exact decide_eq_decide.2 ⟨fun h => by omega, fun h => by omega⟩)
        | contradiction
        | (exfalso; omega)
        | fail
end Go.Proofs.YtdnicbbandbdbaaDoor
