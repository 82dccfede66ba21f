/- A walk of the law PreRuns. No condition but the listed table's values. -/
import Derived.Test.YthhfandandfeeaaDoorNA
import Derived.Test.YthhfandandfeeaaDoorDI
namespace Go.Proofs.YthhfandandfeeaaDoor
open Go.PB Go.RowKit
attribute [local irreducible] Go.Calls
theorem same11_ok {M : List Nat} {w0 w : World} {H : List Ent} {v u : Value} {l : List Tk} (hst : St M w0 w H) (hv : RdE H v l) (hu : RdE H u l) (hl : l.length ≤ 4611686018427387904) :
    Calls Tryd.prog 12 #[v, u] w (Give (.bool true) w) := by
  have hv' := hv.ro
  have hu' := hu.ro
  obtain ⟨p, c, rfl⟩ := hv.len
  obtain ⟨q, d, rfl⟩ := hu.len
  refine give_of_W (vs := [.slice p l.length c, .slice q l.length d]) Tryd.func12 rfl Tryd.ntmps12 (Nat.le_of_ble_eq_true rfl) hst.reads ?_
  simp only [argL]
  repeat' (first | (apply gL; first | (apply Wl.ev rfl rfl; (focus (first | exact ev_move rfl | exact ev_assign rfl | exact ev_nei rfl rfl | (apply gCal; first | exact ev_len_slice (slT rfl) rfl)))) | apply Wl.nil) | (apply gQ; first | (apply Wq.ev rfl rfl; (focus (first | exact ev_move rfl | exact ev_assign rfl | exact ev_nei rfl rfl | (apply gCal; first | exact ev_len_slice (slT rfl) rfl))))) | ((show W _ _ _ _ _ _ _ _ _); first | apply W.seq | (refine W.loop (X := Nat) (fun j => [(0, .slice p l.length c), (1, .slice q l.length d), (12, .int .i64 (l.length : Nat)), (13, .int .i64 (j : Nat))]) (fun _ => ro H) (fun j => j ≤ l.length) (fun j => l.length - j) 0 (Nat.zero_le _) (by repeat (first | exact SubL.nil | refine SubL.cons rfl ?_)) (List.Sublist.refl _) ?_) | apply W.region | apply W.block | apply W.skip | (refine W.cond rfl ?_ ?_ <;> (intro h; try (exfalso; first | contradiction | omega | exact h rfl | exact h ⟨rfl, rfl⟩ | (simp_all; done))))))
  intro j hj
  by_cases hlt : j < l.length
  · obtain ⟨b1, off, c1, arr, et, fr, wr1, he, hm, hcc, hg⟩ := hv'.cons (by omega)
    cases he
    obtain ⟨b2, off2, c2, arr2, et2, fr2, wr2, he2, hm2, hcc2, hg2⟩ := hu'.cons (by omega)
    cases he2
    obtain ⟨⟨uk, ut, ux, ua, un⟩, hu⟩ : ∃ u, l.getD j tk0 = u := ⟨_, rfl⟩
    have g1 := hg j hlt
    have g2 := hg2 j hlt
    rw [hu] at g1 g2
    have g1' : ∀ (f : Nat) v, ([.int .i64 uk, st ut, .int .i32 ux, .int .i64 (ua : Nat), .int .i64 (un : Nat)] : List Value)[f]? = some v → ∀ o, o = off + (j * 5 + f) → arr[o]? = some v := g1
    have g2' : ∀ (f : Nat) v, ([.int .i64 uk, st ut, .int .i32 ux, .int .i64 (ua : Nat), .int .i64 (un : Nat)] : List Value)[f]? = some v → ∀ o, o = off2 + (j * 5 + f) → arr2[o]? = some v := g2
    repeat' (first | (apply gL; first | (apply Wl.ev rfl rfl; (focus (first | exact ev_move rfl | (apply gLoa; first | exact ev_loadAggAt (agT rfl) (szT rfl) rfl hm (fun i v h => g1' i v h _ (by omega)) rfl | exact ev_loadAggAt (agT rfl) (szT rfl) rfl hm2 (fun i v h => g2' i v h _ (by omega)) rfl) | exact ev_assign rfl | (apply gBin; first | exact ev_neFlatD (p := True) (flatT rfl) rfl rfl rfl (by simp [eqL, eqC]) | exact ev_lti rfl rfl | exact ev_add64 rfl rfl (by omega)) | (apply gIxA; first | exact ev_indexAddr (slT rfl) (szT rfl) rfl rfl (by omega))))) | apply Wl.nil) | (apply gQ; first | (apply Wq.ev rfl rfl; (focus (first | exact ev_move rfl | (apply gLoa; first | exact ev_loadAggAt (agT rfl) (szT rfl) rfl hm (fun i v h => g1' i v h _ (by omega)) rfl | exact ev_loadAggAt (agT rfl) (szT rfl) rfl hm2 (fun i v h => g2' i v h _ (by omega)) rfl) | exact ev_assign rfl | (apply gBin; first | exact ev_neFlatD (p := True) (flatT rfl) rfl rfl rfl (by simp [eqL, eqC]) | exact ev_lti rfl rfl | exact ev_add64 rfl rfl (by omega)) | (apply gIxA; first | exact ev_indexAddr (slT rfl) (szT rfl) rfl rfl (by omega))))) | apply Wq.nil) | ((show W _ _ _ _ _ _ _ _ _); first | apply W.seq | (refine W.regionQ mixed (by kernel_rfl) ?_) | apply W.region | apply W.block | apply W.blk | apply W.skip | (refine W.condF rfl ?_) | (refine W.cond rfl ?_ ?_ <;> (intro h; try (exfalso; first | contradiction | omega | exact h rfl | exact h ⟨rfl, rfl⟩ | (simp_all; done))))))
    all_goals exact W.again (j + 1) hlt (by omega) (by repeat (first | exact SubL.nil | refine SubL.cons rfl ?_)) (List.Sublist.refl _)
  · obtain rfl : j = l.length := by omega
    repeat' (first | (apply gL; first | (apply Wl.ev rfl rfl; (focus (first | exact ev_assign rfl | exact ev_lti rfl rfl))) | apply Wl.nil) | (apply gQ; first | (apply Wq.ev rfl rfl; (focus (first | exact ev_assign rfl | exact ev_lti rfl rfl)))) | ((show W _ _ _ _ _ _ _ _ _); first | apply W.seq | apply W.region | (refine W.exit rfl ?_) | (refine W.cond rfl ?_ ?_ <;> (intro h; try (exfalso; first | contradiction | omega | exact h rfl | exact h ⟨rfl, rfl⟩ | (simp_all; done)))) | (refine W.ret1 rfl rfl ?_; intro w hs)))
    all_goals exact ret_eq hs rfl
theorem putS_len {V : Wds} : ∀ (l out out' : List Tk), putS V out l = .inl out' → out.length ≤ 2048 → out'.length ≤ 2048
  | [], out, out', h, hl => by
    rw [putS] at h
    cases h
    exact hl
  | t :: l, out, out', h, hl => by
    rw [putS] at h
    cases hx : expS V t with
    | none => rw [hx] at h; cases h
    | some x =>
      rw [hx] at h
      dsimp only at h
      split at h
      · cases h
      · exact putS_len l _ _ h (by rw [List.length_append]; omega)
theorem rowS_len {first : Bool} {s s' : Ms} {r : List Tk} (h : rowS first s r = .inl s') (hl : s.out.length ≤ 2048) : s'.out.length ≤ 2048 := by
  rcases r with _ | ⟨t, rest⟩
  · cases h
    exact hl
  · simp only [rowS] at h
    split at h
    · cases hd : dirS s.W s.P first rest with
      | none => rw [hd] at h; cases h
      | some q =>
        rw [hd] at h
        cases h
        exact hl
    · split at h
      · cases h
        exact hl
      · cases hp : putS s.W s.out (t :: rest) with
        | inr p => rw [hp] at h; cases h
        | inl out =>
          rw [hp] at h
          cases h
          exact putS_len _ _ _ hp hl
theorem rowsS_len : ∀ {R : List (List Tk)} {first : Bool} {s s' : Ms}, rowsS first s R = .inl s' → s.out.length ≤ 2048 → s'.out.length ≤ 2048
  | [], _, _, _, h, hl => by
    cases h
    exact hl
  | r :: R, first, s, s', h, hl => by
    rw [rowsS] at h
    cases hr : rowS first s r with
    | inr e => rw [hr] at h; cases h
    | inl s1 =>
      rw [hr] at h
      exact rowsS_len h (rowS_len hr hl)
theorem preS_len (s : List UInt8) : (preS s).1.length ≤ 4611686018427387904 := by
  unfold preS
  split
  · simp
  · split
    · simp
    · rename_i m hm
      split
      · have := rowsS_len hm (by simp)
        dsimp only
        omega
      · simp
set_option maxRecDepth 100000 in
set_option maxHeartbeats 4000000 in
theorem runsLaw_ok (s : List UInt8) (hs0 : s.length ≤ 9223372036854775807) (w : World) (hm : Mx w) (hp : Pows w) : Calls Tryd.prog 3 #[st s] w (Give (.bool true) w) := by
  refine give_of_W (vs := [st s]) Tryd.func3 rfl Tryd.ntmps3 (Nat.le_of_ble_eq_true rfl) (St.nil w _) ?_
  simp only [argL]
  have r1 := prun_ok s hs0
  have r2 := run11_ok s hs0
  obtain ⟨⟨T, e, p⟩, hR⟩ : ∃ R, preS s = R := ⟨_, rfl⟩
  have hTl := preS_len s
  rw [hR] at r1 r2 hTl
  dsimp only at hTl
  dsimp only at r1 r2
  repeat' (first | (apply gL; first | (apply Wl.ev rfl rfl; (focus (first | exact ev_move rfl | (apply gLoa; first | exact ev_loadWhole (agT rfl) (szT rfl) rfl (by repeat (first | exact List.Mem.head _ | apply List.Mem.tail)) rfl) | exact ev_assign rfl | exact ev_pickT rfl rfl | (apply gBin; first | exact ev_eqFlatD (p := True) (flatT rfl) rfl rfl rfl (by simp [eqL, eqC])) | exact ev_notT rfl | exact ev_extract rfl rfl))) | ((show Wl _ _ _ _ _ _ _ (⟨_, .call ⟨.value (.func 9), _, _⟩, _, _, _, _⟩ :: _) _ _); refine wl_call0 rfl rfl has9 rfl (fun w hs => wakes_ok w (hm.st hs (by simp)) (hp.st hs)) ?_) | ((show Wl _ _ _ _ _ _ _ (⟨some 4, .alloc _, _, _, _, _⟩ :: _) _ _); refine wl_alloc rfl rfl (zeroT rfl) ?_; intro s4) | ((show Wl _ _ _ _ _ _ _ (⟨some 6, .alloc _, _, _, _, _⟩ :: _) _ _); refine wl_alloc rfl rfl (zeroT rfl) ?_; intro s6) | ((show Wl _ _ _ _ _ _ _ (⟨_, .call ⟨.value (.func 10), _, _⟩, _, _, _, _⟩ :: _) _ _); refine wl_callY rfl rfl has10 rfl (fun w hs => r1 w (hm.st hs (by simp)) (hp.st hs)) ?_; intro oa hoa; simp only [ents_owN, List.cons_append, List.nil_append]) | ((show Wl _ _ _ _ _ _ _ (⟨_, .call ⟨.value (.func 11), _, _⟩, _, _, _, _⟩ :: _) _ _); refine wl_callY rfl rfl has11 rfl (fun w _ => r2 w) ?_; intro ob hob; simp only [ents_owN, List.cons_append, List.nil_append]) | ((show Wl _ _ _ _ _ _ _ (⟨_, .call ⟨.value (.func 12), _, _⟩, _, _, _, _⟩ :: _) _ _); refine wl_call0 rfl rfl has12 rfl (fun w hs => same11_ok hs (RdE.own hoa (fun p hp => by simp [hp])) (RdE.own hob (fun p hp => by simp [hp])) hTl) ?_) | apply Wl.nil | (refine wl_storeWhole rfl rfl rfl (szT rfl) rfl (by repeat (first | exact Upd.here | apply Upd.there)) (by rfl) ?_)) | (apply gQ; first | (apply Wq.ev rfl rfl; (focus (first | exact ev_move rfl | (apply gLoa; first | exact ev_loadWhole (agT rfl) (szT rfl) rfl (by repeat (first | exact List.Mem.head _ | apply List.Mem.tail)) rfl) | exact ev_assign rfl | exact ev_pickT rfl rfl | (apply gBin; first | exact ev_eqFlatD (p := True) (flatT rfl) rfl rfl rfl (by simp [eqL, eqC])) | exact ev_notT rfl | exact ev_extract rfl rfl)))) | ((show W _ _ _ _ _ _ _ _ _); first | apply W.seq | apply W.region | apply W.skip | (refine W.condF rfl ?_) | (refine W.ret1 rfl rfl ?_; intro w hs)))
  all_goals exact ret_eq hs rfl
end Go.Proofs.YthhfandandfeeaaDoor
