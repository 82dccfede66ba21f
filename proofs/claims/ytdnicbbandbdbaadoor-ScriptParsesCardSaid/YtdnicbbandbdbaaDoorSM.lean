/- Walks: a reader's bytes. No condition but the listed tables and cells that the library reads. -/
import Derived.Test.YtdnicbbandbdbaaDoorSK
namespace Go.Proofs.YtdnicbbandbdbaaDoor
open Go.PB Go.RowKit
attribute [local irreducible] Go.Calls
theorem map_map_app {o : Option (List UInt8)} {a : List UInt8} {x : UInt8} : (o.map (x :: ·)).map (a ++ ·) = o.map ((a ++ [x]) ++ ·) := by
  cases o <;> simp
theorem bytV_snoc (l : List UInt8) (x : UInt8) : bytV (l ++ [x]) = bytV l ++ [by8 x] := by simp [bytV]
set_option maxRecDepth 100000 in
set_option maxHeartbeats 4000000 in
theorem bytes_ok {M : List Nat} {w0 w : World} {A : List Ent} {r : Nat} {l : List UInt8} (hl : l.length ≤ 1000000) (hne : (wordR l).1 ≠ []) (hst : St M w0 w (⟨r, true, rdB l⟩ :: A)) (lb : Lb w) (lo : Low (wrs (⟨r, true, rdB l⟩ :: A))) :
    Calls Tryd.prog 56 #[ptr r] w (GivesS (fun q : List UInt8 × Ow => .tuple #[ownV q.1.length q.2, .bool (bytsS ((wordR l).1.drop 1)).isSome])
      (fun q => ownOk q.1.length 1 (bytV q.1) q.2 ∧ q.1.length ≤ l.length ∧ ∀ t, bytsS ((wordR l).1.drop 1) = some t → q.1 = t) M w0 (fun q => ⟨r, true, rdB (wordR l).2⟩ :: (A ++ ownH 5 q.2))) := by
  refine calls_of_W (vs := [ptr r]) Tryd.func56 rfl Tryd.ntmps56 (Nat.le_of_ble_eq_true rfl) hst.fromHere ?_
  simp only [argL]
  have h6 : 6 ≤ r := lo r (by simp [wrs])
  have hwl := word_len1 l
  have hw : ∀ w', Lb w' → w'.heap[r]? = some (rdB l) → Calls Tryd.prog 53 #[ptr r] w' (GiveT (st (wordR l).1) r (rdB (wordR l).2) w') := fun w' lb h => word_ok2 hl w' lb h h6
  obtain ⟨q, z, hq⟩ : ∃ q t, wordR l = (q, t) := ⟨_, _, rfl⟩
  rw [hq] at hw hwl hne ⊢
  dsimp only at hw hwl hne ⊢
  obtain ⟨c0, s0, rfl⟩ : ∃ c t, q = c :: t := by
    cases q with
    | nil => exact absurd rfl hne
    | cons c t => exact ⟨c, t, rfl⟩
  have hd : List.drop 1 (c0 :: s0) = s0 := rfl
  rw [hd]
  simp only [List.length_cons] at hwl
  have hm : (0 : Int) < ((s0.length : Nat) : Int).tmod 2 ↔ s0.length % 2 = 1 := by
    rw [Int.tmod_eq_emod_of_nonneg (by omega)]
    omega
  by_cases hbad : s0 = [] ∨ s0.length % 2 = 1
  · have hb : bytsS s0 = none := by unfold bytsS; rw [if_pos hbad]
    rcases hbad with rfl | hodd
    · repeat' (first | (apply gL; first | (apply Wl.ev rfl rfl; (focus (first | exact ev_move rfl | exact ev_assign rfl | exact ev_pickT rfl rfl | exact ev_eqs rfl rfl | (apply gSli; first | exact ev_slice_string_lo (strT rfl) rfl rfl (by first | omega | (simp; done) | (simp; omega) | (simp [*]; done) | (simp [*]; omega) | (simp_all; done) | (simp_all; omega)))))) | ((show Wl _ _ _ _ _ _ _ (⟨_, .call ⟨.value (.func 53), _, _⟩, _, _, _, _⟩ :: _) _ _); refine wl_callT0 rfl rfl has53 rfl (fun w hs => hw w (lb.st hs lo) (hs.get (List.Mem.head _))) (by repeat (first | exact Upd.here | apply Upd.there)) ?_) | apply Wl.nil | (refine Wl.skip rfl rfl ?_)) | (apply gQ; first | (apply Wq.ev rfl rfl; (focus (first | exact ev_move rfl | exact ev_assign rfl | exact ev_pickT rfl rfl | exact ev_eqs rfl rfl | (apply gSli; first | exact ev_slice_string_lo (strT rfl) rfl rfl (by first | omega | (simp; done) | (simp; omega) | (simp [*]; done) | (simp [*]; omega) | (simp_all; done) | (simp_all; omega))))))) | ((show W _ _ _ _ _ _ _ _ _); first | apply W.seq | apply W.region | (refine W.condT rfl ?_) | (refine W.ret2 rfl rfl rfl ?_; intro w hs)))
      all_goals first | contradiction | exact GivesS.of hst hs ([], none) ⟨⟨rfl, rfl⟩, Nat.zero_le _, fun t ht => by rw [hb] at ht; cases ht⟩ (by rw [hb]; rfl) (by rw [ownH_none, List.append_nil]; first | exact List.Sublist.refl _ | exact (List.Sublist.cons_cons _ (List.sublist_append_left _ _))) | fail
    · have h0 : s0 ≠ [] := by rintro rfl; simp at hodd
      have hm1 := hm.2 hodd
      repeat' (first | (apply gL; first | (apply Wl.ev rfl rfl; (focus (first | exact ev_move rfl | exact ev_assign rfl | exact ev_pickF rfl rfl | (apply gBin; first | exact ev_eqs rfl rfl | exact ev_gti rfl rfl | exact ev_rem rfl rfl (by decide)) | (apply gCal; first | exact ev_len_string (strT rfl) rfl) | (apply gSli; first | exact (ev_slice_string_lo (strT rfl) rfl rfl (by simp only [List.length_cons]; omega)).to (show _ = st s0 from rfl))))) | ((show Wl _ _ _ _ _ _ _ (⟨_, .call ⟨.value (.func 53), _, _⟩, _, _, _, _⟩ :: _) _ _); refine wl_callT0 rfl rfl has53 rfl (fun w hs => hw w (lb.st hs lo) (hs.get (List.Mem.head _))) (by repeat (first | exact Upd.here | apply Upd.there)) ?_) | apply Wl.nil | ((fail_if_success (apply Wl.chk rfl)); refine Wl.split rfl rfl ?_ ?_ <;> (intro h; try (exfalso; first | contradiction | omega | exact h rfl | exact h ⟨rfl, rfl⟩ | (simp_all; done))))) | (apply gQ; first | (apply Wq.ev rfl rfl; (focus (first | exact ev_move rfl | exact ev_assign rfl | exact ev_pickF rfl rfl | (apply gBin; first | exact ev_eqs rfl rfl | exact ev_gti rfl rfl | exact ev_rem rfl rfl (by decide)) | (apply gCal; first | exact ev_len_string (strT rfl) rfl) | (apply gSli; first | exact (ev_slice_string_lo (strT rfl) rfl rfl (by simp only [List.length_cons]; omega)).to (show _ = st s0 from rfl)))))) | ((show W _ _ _ _ _ _ _ _ _); first | apply W.seq | apply W.region | (refine W.cond rfl ?_ ?_ <;> (intro h; try (exfalso; first | contradiction | omega | exact h rfl | exact h ⟨rfl, rfl⟩ | (simp_all; done)))) | (refine W.ret2 rfl rfl rfl ?_; intro w hs)))
      all_goals first | contradiction | exact GivesS.of hst hs ([], none) ⟨⟨rfl, rfl⟩, Nat.zero_le _, fun t ht => by rw [hb] at ht; cases ht⟩ (by rw [hb]; rfl) (by rw [ownH_none, List.append_nil]; first | exact List.Sublist.refl _ | exact (List.Sublist.cons_cons _ (List.sublist_append_left _ _))) | fail
  · have hb : bytsS s0 = unhexS s0 := by unfold bytsS; rw [if_neg hbad]
    have h0 : s0 ≠ [] := fun e => hbad (.inl e)
    have hodd : ¬ s0.length % 2 = 1 := fun e => hbad (.inr e)
    have hev : s0.length % 2 = 0 := by omega
    have hm1 := fun h => hodd (hm.1 h)
    repeat' (first | (apply gL; first | (apply Wl.ev rfl rfl; (focus (first | exact ev_move rfl | exact ev_assign rfl | exact ev_pickF rfl rfl | (apply gBin; first | exact ev_eqs rfl rfl | exact ev_gti rfl rfl | exact ev_rem rfl rfl (by decide)) | (apply gCal; first | exact ev_len_string (strT rfl) rfl) | (apply gSli; first | exact (ev_slice_string_lo (strT rfl) rfl rfl (by simp only [List.length_cons]; omega)).to (show _ = st s0 from rfl))))) | ((show Wl _ _ _ _ _ _ _ (⟨_, .call ⟨.value (.func 53), _, _⟩, _, _, _, _⟩ :: _) _ _); refine wl_callT0 rfl rfl has53 rfl (fun w hs => hw w (lb.st hs lo) (hs.get (List.Mem.head _))) (by repeat (first | exact Upd.here | apply Upd.there)) ?_) | apply Wl.nil | ((fail_if_success (apply Wl.chk rfl)); refine Wl.split rfl rfl ?_ ?_ <;> (intro h; try (exfalso; first | contradiction | omega | exact h rfl | exact h ⟨rfl, rfl⟩ | (simp_all; done))))) | (apply gQ; first | (apply Wq.ev rfl rfl; (focus (first | exact ev_move rfl | exact ev_assign rfl | exact ev_pickF rfl rfl | (apply gBin; first | exact ev_eqs rfl rfl | exact ev_gti rfl rfl | exact ev_rem rfl rfl (by decide)) | (apply gCal; first | exact ev_len_string (strT rfl) rfl) | (apply gSli; first | exact (ev_slice_string_lo (strT rfl) rfl rfl (by simp only [List.length_cons]; omega)).to (show _ = st s0 from rfl)))))) | ((show W _ _ _ _ _ _ _ _ _); first | apply W.seq | (refine W.loop (X := Nat × List UInt8 × List UInt8 × Ow) (fun x => [(4, st x.2.2.1), (5, ownV x.1 x.2.2.2)]) (fun x => ⟨r, true, rdB z⟩ :: (A ++ ownH 5 x.2.2.2)) (fun x => x.1 = x.2.1.length ∧ ownOk x.1 1 (bytV x.2.1) x.2.2.2 ∧ unhexS s0 = (unhexS x.2.2.1).map (x.2.1 ++ ·) ∧ x.2.2.1.length % 2 = 0 ∧ x.1 + x.2.2.1.length ≤ s0.length) (fun x => x.2.2.1.length) (0, [], s0, none) ⟨rfl, ⟨rfl, rfl⟩, by simp, hev, by simp⟩ (by repeat (first | exact SubL.nil | refine SubL.cons rfl ?_)) (by simp only [ownH_none, List.append_nil]; exact List.Sublist.refl _) ?_) | apply W.region | apply W.block | apply W.skip | (refine W.cond rfl ?_ ?_ <;> (intro h; try (exfalso; first | contradiction | omega | exact h rfl | exact h ⟨rfl, rfl⟩ | (simp_all; done))))))
    rintro ⟨n, bs, s, o⟩ ⟨hn, hok, hun, hpar, hlen⟩
    dsimp only at hn hok hun hpar hlen ⊢
    cases s with
    | nil =>
      have hb1 : bytsS s0 = some bs := by rw [hb, hun]; simp [unhexS]
      repeat' (first | (apply gL; first | (apply Wl.ev rfl rfl; (focus (first | exact ev_move rfl | exact ev_assign rfl | (apply gBin; first | exact ev_nesF rfl rfl (by decide))))) | apply Wl.nil) | (apply gQ; first | (apply Wq.ev rfl rfl; (focus (first | exact ev_move rfl | exact ev_assign rfl | (apply gBin; first | exact ev_nesF rfl rfl (by decide)))))) | ((show W _ _ _ _ _ _ _ _ _); first | apply W.seq | apply W.region | (refine W.exit rfl ?_) | (refine W.condF rfl ?_) | (refine W.ret2 rfl rfl rfl ?_; intro w hs)))
      all_goals first
        | contradiction
        | exact GivesS.of hst hs (bs, o) ⟨by rw [← hn]; exact hok, by rw [← hn]; omega, fun t ht => by rw [hb1] at ht; cases ht; rfl⟩ (by rw [hb1, ← hn]; rfl) (List.Sublist.refl _)
        | fail
    | cons a s =>
      cases s with
      | nil => simp at hpar
      | cons b s =>
        simp only [List.length_cons] at hpar hlen
        have hp := pair_ok a b s (by omega)
        rw [unhexS] at hun
        cases hx : pairS a b with
        | none =>
          rw [hx] at hp hun
          have hb' : bytsS s0 = none := by rw [hb, hun]; rfl
          clear hb
          have hb := hb'
          repeat' (first | (apply gL; first | (apply Wl.ev rfl rfl; (focus (first | exact ev_move rfl | exact ev_assign rfl | exact ev_nes rfl rfl | exact ev_notF rfl | exact ev_extract rfl rfl))) | ((show Wl _ _ _ _ _ _ _ (⟨_, .call ⟨.value (.func 73), _, _⟩, _, _, _, _⟩ :: _) _ _); refine wl_call0 rfl rfl has73 rfl (fun w hs => hp w) ?_) | apply Wl.nil) | (apply gQ; first | (apply Wq.ev rfl rfl; (focus (first | exact ev_move rfl | exact ev_assign rfl | exact ev_nes rfl rfl | exact ev_notF rfl | exact ev_extract rfl rfl)))) | ((show W _ _ _ _ _ _ _ _ _); first | apply W.seq | apply W.region | apply W.block | apply W.skip | (refine W.condT rfl ?_) | (refine W.ret2 rfl rfl rfl ?_; intro w hs)))
          all_goals first | contradiction | exact GivesS.of hst hs ([], none) ⟨⟨rfl, rfl⟩, Nat.zero_le _, fun t ht => by rw [hb] at ht; cases ht⟩ (by rw [hb]; rfl) (by rw [ownH_none, List.append_nil]; first | exact List.Sublist.refl _ | exact (List.Sublist.cons_cons _ (List.sublist_append_left _ _))) | fail
        | some x =>
          rw [hx] at hp hun
          dsimp only at hun
          rw [map_map_app] at hun
          rw [prV_some hx] at hp
          repeat' (first | (apply gL; first | (apply Wl.ev rfl rfl; (focus (first | exact ev_move rfl | exact ev_assign rfl | exact ev_nes rfl rfl | exact ev_notT rfl | exact ev_extract rfl rfl | (apply gSli; first | exact ev_slice_string_lo (strT rfl) rfl rfl (by first | omega | (simp; done) | (simp; omega) | (simp [*]; done) | (simp [*]; omega) | (simp_all; done) | (simp_all; omega)))))) | ((show Wl _ _ _ _ _ _ _ (⟨_, .call ⟨.value (.func 73), _, _⟩, _, _, _, _⟩ :: _) _ _); refine wl_call0 rfl rfl has73 rfl (fun w hs => hp w) ?_) | (refine wl_append_own (m := n) (k := 1) (o := o) (xs := bytV bs) (news := [by8 x]) rfl rfl (slT rfl) (szT rfl) (byT rfl) (zeroT rfl) rfl rfl rfl hok (by repeat (first | exact List.Mem.head _ | apply List.Mem.tail)) rfl (fun j v h => by simpa using h) (by simp [Value.oneCell']) (by omega) (by simp only [maxLen]; omega) (by omega) (by repeat (first | exact TailUp.app | apply TailUp.there)) ?_; intro o1 hok1) | apply Wl.nil | (apply wl_buildSlice rfl rfl (slT rfl) (szT rfl) (zeroT rfl) rfl (by decide) rfl; (focus (simp [fillP, List.range_succ]; rfl)); intro b)) | (apply gQ; first | (apply Wq.ev rfl rfl; (focus (first | exact ev_move rfl | exact ev_assign rfl | exact ev_nes rfl rfl | exact ev_notT rfl | exact ev_extract rfl rfl | (apply gSli; first | exact ev_slice_string_lo (strT rfl) rfl rfl (by first | omega | (simp; done) | (simp; omega) | (simp [*]; done) | (simp [*]; omega) | (simp_all; done) | (simp_all; omega))))))) | ((show W _ _ _ _ _ _ _ _ _); first | apply W.seq | apply W.region | apply W.block | apply W.blk | apply W.skip | (refine W.condT rfl ?_) | (refine W.condF rfl ?_)))
          all_goals first
            | exact W.again (n + 1, bs ++ [x], s, o1) ⟨by simp [hn], by rw [bytV_snoc]; exact hok1, hun, by dsimp only; omega, by dsimp only; omega⟩ (by simp only [List.length_cons]; omega) (by repeat (first | exact SubL.nil | refine SubL.cons rfl ?_)) (by repeat (first | exact SubH.nil | apply SubH.keep | apply SubH.drop | exact List.Sublist.refl _ | exact List.sublist_append_left _ _))
            | fail
end Go.Proofs.YtdnicbbandbdbaaDoor
