/- A walk of the document's Lex. No condition. -/
import Derived.Test.YthhfandandfeeaaDoorLA
import Derived.Test.YthhfandandfeeaaDoorTA
namespace Go.Proofs.YthhfandandfeeaaDoor
open Go.PB Go.RowKit
attribute [local irreducible] Go.Calls
theorem nl_succ {s : List UInt8} {f : Nat} (h : f < s.length) : nlN (s.take (f + 1)) = nlN (s.take f) + (if s.getD f 0 = 10 then 1 else 0) := by
  unfold nlN
  rw [take_snoc' h, List.count_append]
  congr 1
  rw [List.count_singleton]
  simp
theorem nl_le {s : List UInt8} {f : Nat} : nlN (s.take f) ≤ s.length := by
  have : nlN (s.take f) ≤ (s.take f).length := List.count_le_length
  simp only [List.length_take] at this
  omega
set_option maxRecDepth 100000 in
set_option maxHeartbeats 8000000 in
theorem lex10_ok (s : List UInt8) (hlong : s.length ≤ 9223372036854775807) (w : World) : Calls Tryd.prog 17 #[st s] w (LexG (lexS s) w) := by
  refine calls_of_W (vs := [st s]) Tryd.func17 rfl Tryd.ntmps17 (Nat.le_of_ble_eq_true rfl) (St.nil w []) ?_
  simp only [argL]
  by_cases hl : 8192 < s.length
  · have e : lexS s = ([], 3, 0) := by unfold lexS; rw [if_pos hl]
    rw [e]
    repeat' (first | (apply gL; first | (apply Wl.ev rfl rfl; (focus (first | exact ev_move rfl | exact ev_assign rfl | exact ev_gti rfl rfl | (apply gBui; first | (apply ev_build (bldT rfl) rfl; simp [fillP]; rfl)) | (apply gCal; first | exact ev_len_string (strT rfl) rfl)))) | apply Wl.nil | (refine wl_alloc rfl rfl (zeroT rfl) ?_; intro b) | (refine wl_storeWhole rfl rfl rfl (szT rfl) rfl (by repeat (first | exact Upd.here | apply Upd.there)) (by rfl) ?_)) | (apply gQ; first | (apply Wq.ev rfl rfl; (focus (first | exact ev_move rfl | exact ev_assign rfl | exact ev_gti rfl rfl | (apply gBui; first | (apply ev_build (bldT rfl) rfl; simp [fillP]; rfl)) | (apply gCal; first | exact ev_len_string (strT rfl) rfl))))) | ((show W _ _ _ _ _ _ _ _ _); first | apply W.seq | (refine W.rettc rfl rfl rfl (agT rfl) (by repeat (first | exact List.Mem.head _ | apply List.Mem.tail)) (szT rfl) ?_; intro w hs) | apply W.region | (refine W.cond rfl ?_ ?_ <;> (intro h; try (exfalso; first | contradiction | omega | exact h rfl | exact h ⟨rfl, rfl⟩ | (simp_all; done))))))
    exact ret_new hs none ⟨rfl, rfl⟩ rfl SubH.nil
  · rw [lexS_eq (by omega)]
    have hl1 : s.length ≤ 1000000 := by omega
    repeat' (first | (apply gL; first | (apply Wl.ev rfl rfl; (focus (first | exact ev_move rfl | exact ev_assign rfl | exact ev_gti rfl rfl | (apply gCal; first | exact ev_len_string (strT rfl) rfl)))) | (refine wl_alloc rfl rfl (zeroT rfl) ?_; intro sb) | apply Wl.nil) | (apply gQ; first | (apply Wq.ev rfl rfl; (focus (first | exact ev_move rfl | exact ev_assign rfl | exact ev_gti rfl rfl | (apply gCal; first | exact ev_len_string (strT rfl) rfl))))) | ((show W _ _ _ _ _ _ _ _ _); first | apply W.seq | (refine W.loop (X := Nat × Nat × List Tk × Ow) (fun x => [(0, st s), (3, ptr sb), (4, ownV x.2.2.1.length x.2.2.2), (5, .int .i64 (nlN (s.take x.2.1) : Nat)), (6, .int .i64 (x.2.1 : Nat)), (7, .int .i64 (x.1 : Nat))]) (fun x => ⟨sb, true, row [.int .i64 0, .int .i64 0] 26⟩ :: ownH 35 x.2.2.2) (fun x => x.1 ≤ s.length ∧ x.2.1 ≤ x.1 ∧ x.2.2.1.length ≤ 2048 ∧ ownOk x.2.2.1.length 5 (tksC x.2.2.1) x.2.2.2 ∧ lexR s x.1 x.2.2.1 = lexR s 0 []) (fun x => s.length - x.1) (0, 0, [], none) ⟨Nat.zero_le _, Nat.le_refl _, by simp, ⟨rfl, rfl⟩, rfl⟩ (by repeat (first | exact SubL.nil | refine SubL.cons rfl ?_)) (by repeat (first | exact SubH.nil | apply SubH.keep | apply SubH.drop | exact List.Sublist.refl _)) ?_) | apply W.region | apply W.block | apply W.skip | (refine W.cond rfl ?_ ?_ <;> (intro h; try (exfalso; first | contradiction | omega | exact h rfl | exact h ⟨rfl, rfl⟩ | (simp_all; done)))))) 
    rintro ⟨i, fr, acc, o⟩ ⟨hi, hfr, hacc, hok, hlx⟩
    dsimp only at hi hfr hacc hok hlx ⊢
    have sk := skip10_ok s i hl1 hi
    rw [lexR_eq s i acc hi] at hlx
    have hsl := skip_le (s.drop i)
    obtain ⟨R, hR⟩ : ∃ R, skipS (s.drop i) = R := ⟨_, rfl⟩
    rw [hR] at hlx sk hsl
    rw [List.length_drop] at hsl
    obtain ⟨q, hq⟩ : ∃ q, i + R.1 = q := ⟨_, rfl⟩
    rw [hq] at hlx sk
    have hqs : q ≤ s.length := by omega
    obtain ⟨X, hX⟩ : ∃ X, lexR s 0 [] = X := ⟨_, rfl⟩
    rw [hX] at hlx ⊢
    by_cases h1 : R.2 = false
    · rw [if_pos h1] at hlx
      rw [h1] at sk
      subst hlx
      repeat' (first | (apply gL; first | (apply Wl.ev rfl rfl; (focus (first | exact ev_move rfl | exact ev_assign rfl | exact ev_notF rfl | exact ev_extract rfl rfl | (apply gBui; first | (apply ev_build (bldT rfl) rfl; simp [fillP]; rfl))))) | ((show Wl _ _ _ _ _ _ _ (⟨_, .call ⟨.value (.func 31), _, _⟩, _, _, _, _⟩ :: _) _ _); refine wl_call0 rfl rfl has31 rfl (fun w _ => sk w) ?_) | apply Wl.nil | (refine wl_storeWhole rfl rfl rfl (szT rfl) rfl (by repeat (first | exact Upd.here | apply Upd.there)) (by rfl) ?_)) | (apply gQ; first | (apply Wq.ev rfl rfl; (focus (first | exact ev_move rfl | exact ev_assign rfl | exact ev_notF rfl | exact ev_extract rfl rfl | (apply gBui; first | (apply ev_build (bldT rfl) rfl; simp [fillP]; rfl)))))) | ((show W _ _ _ _ _ _ _ _ _); first | apply W.seq | (refine W.rettc rfl rfl rfl (agT rfl) (by repeat (first | exact List.Mem.head _ | apply List.Mem.tail)) (szT rfl) ?_; intro w hs) | apply W.region | apply W.block | (refine W.condT rfl ?_)))
      exact ret_new hs none ⟨rfl, rfl⟩ rfl SubH.nil
    rw [if_neg h1] at hlx
    have h1' : R.2 = true := by simpa using h1
    rw [h1'] at sk
    by_cases h2 : q = s.length
    · rw [if_pos h2] at hlx
      subst hlx
      repeat' (first | (apply gL; first | (apply Wl.ev rfl rfl; (focus (first | exact ev_move rfl | exact ev_assign rfl | exact ev_eqi rfl rfl | exact ev_notT rfl | exact ev_extract rfl rfl | (apply gBui; first | (apply ev_build (bldT rfl) rfl; simp [fillP]; rfl)) | (apply gCal; first | exact ev_len_string (strT rfl) rfl)))) | ((show Wl _ _ _ _ _ _ _ (⟨_, .call ⟨.value (.func 31), _, _⟩, _, _, _, _⟩ :: _) _ _); refine wl_call0 rfl rfl has31 rfl (fun w _ => sk w) ?_) | apply Wl.nil | (refine wl_storeWhole rfl rfl rfl (szT rfl) rfl (by repeat (first | exact Upd.here | apply Upd.there)) (by rfl) ?_)) | (apply gQ; first | (apply Wq.ev rfl rfl; (focus (first | exact ev_move rfl | exact ev_assign rfl | exact ev_eqi rfl rfl | exact ev_notT rfl | exact ev_extract rfl rfl | (apply gBui; first | (apply ev_build (bldT rfl) rfl; simp [fillP]; rfl)) | (apply gCal; first | exact ev_len_string (strT rfl) rfl))))) | ((show W _ _ _ _ _ _ _ _ _); first | apply W.seq | (refine W.rettc rfl rfl rfl (agT rfl) (by repeat (first | exact List.Mem.head _ | apply List.Mem.tail)) (szT rfl) ?_; intro w hs) | apply W.region | apply W.block | apply W.skip | (refine W.condF rfl ?_) | (refine W.cond rfl ?_ ?_ <;> (intro h; try (exfalso; first | contradiction | omega | exact h rfl | exact h ⟨rfl, rfl⟩ | (simp_all; done))))))
      exact ret_new hs o hok rfl (by rw [ents_owN]; exact (by repeat (first | exact SubH.nil | apply SubH.keep | apply SubH.drop | exact List.Sublist.refl _)))
    rw [if_neg h2] at hlx
    obtain ⟨l, hls⟩ : ∃ l, s.drop q = l := ⟨_, rfl⟩
    have tk := token10_ok s q hl1 (by omega)
    have htm := tok_m l
    unfold errAt tkAt at hlx
    rw [hls] at hlx tk
    generalize tokS l = T at tk htm hlx
    obtain ⟨e, k, m, x⟩ := T
    dsimp only at htm hlx
    by_cases h4 : e = 0
    · subst h4
      rw [show tokE ⟨0, k, m, x⟩ = ⟨0, k, m, x⟩ from rfl] at tk
      simp only [tokR, tokC] at tk
      by_cases h5 : acc.length = 2048
      · rw [if_pos (by simp [h5])] at hlx
        rw [if_pos (by simp [h5])] at hlx
        subst hlx
        repeat' (first | (apply gL; first | (apply Wl.ev rfl rfl; (focus (first | exact ev_move rfl | exact ev_assign rfl | exact ev_pickT rfl rfl | (apply gBin; first | exact ev_eqi rfl rfl | exact ev_nei rfl rfl) | exact ev_notT rfl | exact ev_extract rfl rfl | (apply gBui; first | (apply ev_build (bldT rfl) rfl; simp [fillP]; rfl)) | (apply gCal; first | exact ev_len_own (slT rfl) hok rfl | exact ev_len_string (strT rfl) rfl)))) | ((show Wl _ _ _ _ _ _ _ (⟨_, .call ⟨.value (.func 31), _, _⟩, _, _, _, _⟩ :: _) _ _); refine wl_call0 rfl rfl has31 rfl (fun w _ => sk w) ?_) | ((show Wl _ _ _ _ _ _ _ (⟨_, .call ⟨.value (.func 32), _, _⟩, _, _, _, _⟩ :: _) _ _); refine wl_call0 rfl rfl has32 rfl (fun w _ => tk w) ?_) | apply Wl.nil | (refine Wl.skip rfl rfl ?_) | (refine wl_alloc rfl rfl (zeroT rfl) ?_; intro b) | (refine wl_storeWhole rfl rfl rfl (szT rfl) rfl (by repeat (first | exact Upd.here | apply Upd.there)) (by rfl) ?_)) | (apply gQ; first | (apply Wq.ev rfl rfl; (focus (first | exact ev_move rfl | exact ev_assign rfl | exact ev_pickT rfl rfl | (apply gBin; first | exact ev_eqi rfl rfl | exact ev_nei rfl rfl) | exact ev_notT rfl | exact ev_extract rfl rfl | (apply gBui; first | (apply ev_build (bldT rfl) rfl; simp [fillP]; rfl)) | (apply gCal; first | exact ev_len_own (slT rfl) hok rfl | exact ev_len_string (strT rfl) rfl))))) | ((show W _ _ _ _ _ _ _ _ _); first | apply W.seq | (refine W.rettc rfl rfl rfl (agT rfl) (by repeat (first | exact List.Mem.head _ | apply List.Mem.tail)) (szT rfl) ?_; intro w hs) | apply W.region | apply W.block | apply W.skip | (refine W.condT rfl ?_) | (refine W.condF rfl ?_) | (refine W.cond rfl ?_ ?_ <;> (intro h; try (exfalso; first | contradiction | omega | exact h rfl | exact h ⟨rfl, rfl⟩ | (simp_all; done))))))
        all_goals exact ret_new hs none ⟨rfl, rfl⟩ rfl SubH.nil
      · rw [if_neg (by simp [h5])] at hlx
        have hml : l.length + q = s.length := by rw [← hls]; simp; omega
        have htl : (l.take m).length = m := by simp; omega
        have hm1 := htm.2 rfl
        obtain ⟨Y, hY⟩ : ∃ Y : Tk, ({ k := k, t := l.take m, x := x, at_ := q, ln := nlN (s.take q) } : Tk) = Y := ⟨_, rfl⟩
        rw [hY] at hlx
        repeat' (first | (apply gL; first | (apply Wl.ev rfl rfl; (focus (first | exact ev_move rfl | exact ev_assign rfl | exact ev_pickT rfl rfl | (apply gBin; first | exact ev_eqi rfl rfl | exact ev_nei rfl rfl) | exact ev_notT rfl | exact ev_extract rfl rfl | (apply gCal; first | exact ev_len_own (slT rfl) hok rfl | exact ev_len_string (strT rfl) rfl)))) | (refine wl_alloc rfl rfl (zeroT rfl) ?_; intro tb) | ((show Wl _ _ _ _ _ _ _ (⟨_, .call ⟨.value (.func 31), _, _⟩, _, _, _, _⟩ :: _) _ _); refine wl_call0 rfl rfl has31 rfl (fun w _ => sk w) ?_) | ((show Wl _ _ _ _ _ _ _ (⟨_, .call ⟨.value (.func 32), _, _⟩, _, _, _, _⟩ :: _) _ _); refine wl_call0 rfl rfl has32 rfl (fun w _ => tk w) ?_) | apply Wl.nil | (refine Wl.skip rfl rfl ?_) | (refine wl_storeWhole rfl rfl rfl (szT rfl) rfl (by repeat (first | exact Upd.here | apply Upd.there)) (by rfl) ?_)) | (apply gQ; first | (apply Wq.ev rfl rfl; (focus (first | exact ev_move rfl | exact ev_assign rfl | exact ev_pickT rfl rfl | (apply gBin; first | exact ev_eqi rfl rfl | exact ev_nei rfl rfl) | exact ev_notT rfl | exact ev_extract rfl rfl | (apply gCal; first | exact ev_len_own (slT rfl) hok rfl | exact ev_len_string (strT rfl) rfl))))) | ((show W _ _ _ _ _ _ _ _ _); first | apply W.seq | (refine W.loop (X := Nat) (fun f => [(0, st s), (3, ptr sb), (4, ownV acc.length o), (5, .int .i64 (nlN (s.take f) : Nat)), (6, .int .i64 (f : Nat)), (7, .int .i64 (i : Nat)), (8, .int .i64 (q : Nat)), (10, ptr tb)]) (fun _ => ⟨tb, true, row [.int .i64 k, st (l.take m), .int .i32 x, .int .i64 0, .int .i64 0] 35⟩ :: ⟨sb, true, row [.int .i64 0, .int .i64 0] 26⟩ :: ownH 35 o) (fun f => fr ≤ f ∧ f ≤ q) (fun f => q - f) fr ⟨Nat.le_refl _, by omega⟩ (by repeat (first | exact SubL.nil | refine SubL.cons rfl ?_)) (by repeat (first | exact SubH.nil | apply SubH.keep | apply SubH.drop | exact List.Sublist.refl _)) ?_) | apply W.region | apply W.block | apply W.skip | (refine W.condF rfl ?_) | (refine W.cond rfl ?_ ?_ <;> (intro h; try (exfalso; first | contradiction | omega | exact h rfl | exact h ⟨rfl, rfl⟩ | (simp_all; done))))))
        all_goals
          rintro f ⟨hf1, hf2⟩
          by_cases hfq : f < q
          · have hn := nl_succ (s := s) (f := f) (by omega)
            have hle := nl_le (s := s) (f := f)
            obtain ⟨V, hV⟩ : ∃ V, nlN (s.take f) = V := ⟨_, rfl⟩
            rw [hV] at hn hle ⊢
            by_cases hten : s.getD f 0 = 10
            · rw [if_pos hten] at hn
              have ht : ((s.getD f 0).toNat : Int) = 10 := by rw [hten]; rfl
              repeat' (first | (apply gL; first | (apply Wl.ev rfl rfl; (focus (first | exact ev_move rfl | exact ev_assign rfl | (apply gBin; first | exact ev_eqi rfl rfl | exact ev_lti rfl rfl | exact ev_add64 rfl rfl (by omega)) | (apply gIdx; first | exact (ev_index_string (strT rfl) rfl rfl (by omega)).to (show _ = by8 (s.getD f 0) from rfl))))) | apply Wl.nil) | (apply gQ; first | (apply Wq.ev rfl rfl; (focus (first | exact ev_move rfl | exact ev_assign rfl | (apply gBin; first | exact ev_eqi rfl rfl | exact ev_lti rfl rfl | exact ev_add64 rfl rfl (by omega)) | (apply gIdx; first | exact (ev_index_string (strT rfl) rfl rfl (by omega)).to (show _ = by8 (s.getD f 0) from rfl)))))) | ((show W _ _ _ _ _ _ _ _ _); first | apply W.seq | apply W.region | apply W.block | apply W.blk | apply W.skip | (refine W.cond rfl ?_ ?_ <;> (intro h; try (exfalso; first | contradiction | omega | exact h rfl | exact h ⟨rfl, rfl⟩ | (simp_all; done))))))
              refine W.again (f + 1) ⟨by omega, by omega⟩ (by omega) ?_ (by repeat (first | exact SubH.nil | apply SubH.keep | apply SubH.drop | exact List.Sublist.refl _))
              rw [hn]
              exact (by repeat (first | exact SubL.nil | refine SubL.cons rfl ?_))
            · rw [if_neg hten] at hn
              have ht := by_ne hten
              repeat' (first | (apply gL; first | (apply Wl.ev rfl rfl; (focus (first | exact ev_move rfl | exact ev_assign rfl | (apply gBin; first | exact ev_eqi rfl rfl | exact ev_lti rfl rfl | exact ev_add64 rfl rfl (by omega)) | (apply gIdx; first | exact (ev_index_string (strT rfl) rfl rfl (by omega)).to (show _ = by8 (s.getD f 0) from rfl))))) | apply Wl.nil) | (apply gQ; first | (apply Wq.ev rfl rfl; (focus (first | exact ev_move rfl | exact ev_assign rfl | (apply gBin; first | exact ev_eqi rfl rfl | exact ev_lti rfl rfl | exact ev_add64 rfl rfl (by omega)) | (apply gIdx; first | exact (ev_index_string (strT rfl) rfl rfl (by omega)).to (show _ = by8 (s.getD f 0) from rfl)))))) | ((show W _ _ _ _ _ _ _ _ _); first | apply W.seq | apply W.region | apply W.block | apply W.blk | apply W.skip | (refine W.cond rfl ?_ ?_ <;> (intro h; try (exfalso; first | contradiction | omega | exact h rfl | exact h ⟨rfl, rfl⟩ | (simp_all; done))))))
              refine W.again (f + 1) ⟨by omega, by omega⟩ (by omega) ?_ (by repeat (first | exact SubH.nil | apply SubH.keep | apply SubH.drop | exact List.Sublist.refl _))
              rw [hn]
              exact (by repeat (first | exact SubL.nil | refine SubL.cons rfl ?_))
          · obtain rfl : f = q := by omega
            repeat' (first | (apply gL; first | (apply Wl.ev rfl rfl; (focus (first | exact ev_move rfl | (apply gLoa; first | exact ev_load (agT rfl) rfl (by repeat (first | exact List.Mem.head _ | apply List.Mem.tail)) rfl | exact ev_loadWhole (agT rfl) (szT rfl) rfl (by repeat (first | exact List.Mem.head _ | apply List.Mem.tail)) rfl) | (apply gFie; first | exact ev_fieldAddr0 (fldT rfl) rfl) | exact ev_assign rfl | (apply gBin; first | exact ev_lti rfl rfl | exact ev_add64 rfl rfl (by omega)) | (apply gCal; first | exact ev_len_string (strT rfl) rfl)))) | (refine wl_append_own (m := acc.length) (k := 1) (news := tkC Y) rfl rfl (slT rfl) (szT rfl) (byT rfl) (zeroT rfl) rfl rfl rfl hok (by repeat (first | exact List.Mem.head _ | apply List.Mem.tail)) rfl (fun j v h => by rw [← hY] at h; simpa [tkC] using h) (by rw [← hY]; simp [tkC, Value.oneCell']) (by decide) (by simp only [maxLen]; omega) (by omega) (by repeat (first | exact TailUp.here | apply TailUp.there)) ?_; intro o' hok') | apply Wl.nil | (refine wl_store1 rfl rfl rfl rfl (szT rfl) (by repeat (first | exact Upd.here | apply Upd.there)) (by first | decide | (simp; done)) ?_; try simp only [List.set]) | (apply wl_buildSlice rfl rfl (slT rfl) (szT rfl) (zeroT rfl) rfl (by decide) rfl; (focus (simp [fillP, List.range_succ]; rfl)); intro b)) | (apply gQ; first | (apply Wq.ev rfl rfl; (focus (first | exact ev_move rfl | (apply gLoa; first | exact ev_load (agT rfl) rfl (by repeat (first | exact List.Mem.head _ | apply List.Mem.tail)) rfl | exact ev_loadWhole (agT rfl) (szT rfl) rfl (by repeat (first | exact List.Mem.head _ | apply List.Mem.tail)) rfl) | (apply gFie; first | exact ev_fieldAddr0 (fldT rfl) rfl) | exact ev_assign rfl | (apply gBin; first | exact ev_lti rfl rfl | exact ev_add64 rfl rfl (by omega)) | (apply gCal; first | exact ev_len_string (strT rfl) rfl))))) | ((show W _ _ _ _ _ _ _ _ _); first | apply W.seq | apply W.region | apply W.blk | (refine W.exit rfl ?_) | (refine W.cond rfl ?_ ?_ <;> (intro h; try (exfalso; first | contradiction | omega | exact h rfl | exact h ⟨rfl, rfl⟩ | (simp_all; done))))))
            rw [htl]
            refine W.again (f + m, f, acc ++ [Y], o') ⟨by dsimp only; omega, by dsimp only; omega, by simp; omega, by simp only [tksC_snoc, List.length_append]; exact hok', by first | exact hlx | exact hlx.trans hX.symm⟩ (by dsimp only; omega) ?_ (by repeat (first | exact SubH.nil | apply SubH.keep | apply SubH.drop | exact List.Sublist.refl _))
            dsimp only
            rw [show (acc ++ [Y]).length = acc.length + 1 by simp]
            exact (by repeat (first | exact SubL.nil | refine SubL.cons rfl ?_))
    · rw [show tokE ⟨e, k, m, x⟩ = ⟨e, 0, 0, 0⟩ from if_neg h4] at tk
      simp only [tokR, tokC] at tk
      by_cases h3 : e = 120 ∧ acc.length = 2048
      · obtain ⟨rfl, h3b⟩ := h3
        rw [if_pos (by simp [h3b]), if_pos (by simp [h3b])] at hlx
        subst hlx
        repeat' (first | (apply gL; first | (apply Wl.ev rfl rfl; (focus (first | exact ev_move rfl | exact ev_assign rfl | (apply gPic; first | exact ev_pickT rfl rfl | exact ev_pickF rfl rfl) | (apply gBin; first | exact ev_eqi rfl rfl | exact ev_nei rfl rfl) | exact ev_notT rfl | exact ev_extract rfl rfl | (apply gBui; first | (apply ev_build (bldT rfl) rfl; simp [fillP]; rfl)) | (apply gCal; first | exact ev_len_own (slT rfl) hok rfl | exact ev_len_string (strT rfl) rfl)))) | ((show Wl _ _ _ _ _ _ _ (⟨_, .call ⟨.value (.func 31), _, _⟩, _, _, _, _⟩ :: _) _ _); refine wl_call0 rfl rfl has31 rfl (fun w _ => sk w) ?_) | ((show Wl _ _ _ _ _ _ _ (⟨_, .call ⟨.value (.func 32), _, _⟩, _, _, _, _⟩ :: _) _ _); refine wl_call0 rfl rfl has32 rfl (fun w _ => tk w) ?_) | apply Wl.nil | (refine wl_alloc rfl rfl (zeroT rfl) ?_; intro b) | (refine wl_storeWhole rfl rfl rfl (szT rfl) rfl (by repeat (first | exact Upd.here | apply Upd.there)) (by rfl) ?_)) | (apply gQ; first | (apply Wq.ev rfl rfl; (focus (first | exact ev_move rfl | exact ev_assign rfl | (apply gPic; first | exact ev_pickT rfl rfl | exact ev_pickF rfl rfl) | (apply gBin; first | exact ev_eqi rfl rfl | exact ev_nei rfl rfl) | exact ev_notT rfl | exact ev_extract rfl rfl | (apply gBui; first | (apply ev_build (bldT rfl) rfl; simp [fillP]; rfl)) | (apply gCal; first | exact ev_len_own (slT rfl) hok rfl | exact ev_len_string (strT rfl) rfl))))) | ((show W _ _ _ _ _ _ _ _ _); first | apply W.seq | (refine W.rettc rfl rfl rfl (agT rfl) (by repeat (first | exact List.Mem.head _ | apply List.Mem.tail)) (szT rfl) ?_; intro w hs) | apply W.region | apply W.block | apply W.skip | (refine W.condT rfl ?_) | (refine W.condF rfl ?_) | (refine W.cond rfl ?_ ?_ <;> (intro h; try (exfalso; first | contradiction | omega | exact h rfl | exact h ⟨rfl, rfl⟩ | (simp_all; done))))))
        all_goals exact ret_new hs none ⟨rfl, rfl⟩ rfl SubH.nil
      · have h3' : ¬((e = 0 ∨ e = 120) ∧ acc.length = 2048) := fun h => h3 ⟨h.1.resolve_left h4, h.2⟩
        rw [if_neg h3', if_pos h4] at hlx
        subst hlx
        repeat' (first | (apply gL; first | (apply Wl.ev rfl rfl; (focus (first | exact ev_move rfl | exact ev_assign rfl | (apply gPic; first | exact ev_pickT rfl rfl | exact ev_pickF rfl rfl) | (apply gBin; first | exact ev_eqi rfl rfl | exact ev_nei rfl rfl) | exact ev_notT rfl | exact ev_extract rfl rfl | (apply gBui; first | (apply ev_build (bldT rfl) rfl; simp [fillP]; rfl)) | (apply gCal; first | exact ev_len_own (slT rfl) hok rfl | exact ev_len_string (strT rfl) rfl)))) | ((show Wl _ _ _ _ _ _ _ (⟨_, .call ⟨.value (.func 31), _, _⟩, _, _, _, _⟩ :: _) _ _); refine wl_call0 rfl rfl has31 rfl (fun w _ => sk w) ?_) | ((show Wl _ _ _ _ _ _ _ (⟨_, .call ⟨.value (.func 32), _, _⟩, _, _, _, _⟩ :: _) _ _); refine wl_call0 rfl rfl has32 rfl (fun w _ => tk w) ?_) | apply Wl.nil | (refine Wl.skip rfl rfl ?_) | (refine wl_alloc rfl rfl (zeroT rfl) ?_; intro b) | (refine wl_storeWhole rfl rfl rfl (szT rfl) rfl (by repeat (first | exact Upd.here | apply Upd.there)) (by rfl) ?_) | ((fail_if_success (apply Wl.chk rfl)); refine Wl.split rfl rfl ?_ ?_ <;> (intro h; try (exfalso; first | contradiction | omega | exact h rfl | exact h ⟨rfl, rfl⟩ | (simp_all; done))))) | (apply gQ; first | (apply Wq.ev rfl rfl; (focus (first | exact ev_move rfl | exact ev_assign rfl | (apply gPic; first | exact ev_pickT rfl rfl | exact ev_pickF rfl rfl) | (apply gBin; first | exact ev_eqi rfl rfl | exact ev_nei rfl rfl) | exact ev_notT rfl | exact ev_extract rfl rfl | (apply gBui; first | (apply ev_build (bldT rfl) rfl; simp [fillP]; rfl)) | (apply gCal; first | exact ev_len_own (slT rfl) hok rfl | exact ev_len_string (strT rfl) rfl))))) | ((show W _ _ _ _ _ _ _ _ _); first | apply W.seq | (refine W.rettc rfl rfl rfl (agT rfl) (by repeat (first | exact List.Mem.head _ | apply List.Mem.tail)) (szT rfl) ?_; intro w hs) | apply W.region | apply W.block | apply W.skip | (refine W.condF rfl ?_) | (refine W.cond rfl ?_ ?_ <;> (intro h; try (exfalso; first | contradiction | omega | exact h rfl | exact h ⟨rfl, rfl⟩ | (simp_all; done))))))
        all_goals exact ret_new hs none ⟨rfl, rfl⟩ rfl SubH.nil
theorem lexG_of {x : List UInt8} {T : List Tk} {e : Int} {p : Nat} (hl : x.length ≤ 1000000) (h : lexS x = (T, e, p)) (w : World) (hm : Mx w) :
    Calls Tryd.prog 15 #[st x] w (Gives (fun o : Ow => .tuple #[ownV T.length o, spotV e (p : Nat)]) (fun o => ownOk T.length 5 (tksC T) o) w (fun _ => []) (owN 35)) := by
  have := lex_ok x (by omega) w hm
  rw [h] at this
  exact this
theorem lexG10_of {x : List UInt8} {T : List Tk} {e : Int} {p : Nat} (hl : x.length ≤ 9223372036854775807) (h : lexS x = (T, e, p)) (w : World) :
    Calls Tryd.prog 17 #[st x] w (Gives (fun o : Ow => .tuple #[ownV T.length o, spotV e (p : Nat)]) (fun o => ownOk T.length 5 (tksC T) o) w (fun _ => []) (owN 35)) := by
  have := lex10_ok x hl w
  rw [h] at this
  exact this
end Go.Proofs.YthhfandandfeeaaDoor
