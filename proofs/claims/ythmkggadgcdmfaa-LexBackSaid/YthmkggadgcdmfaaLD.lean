/- A walk of the law LexReads. No condition but the cell that the library's search reads. -/
import Derived.Test.YthmkggadgcdmfaaLC
namespace Go.PB
open Go.RowKit
section
variable {P : Program} {ops : Array Oper} {Q : Exit → Act → World → Prop} {M : List Nat} {w0 : World} {n : Nat} {D : List Deferred} {L : List (Nat × Value)} {H : List Ent} {rest : List Oper}
  {d : Tmp} {oty t : TypeId} {pos : String} {after : Array Edge} {g : Option (Nat × Bool)}
/-- a call by its contract: what it has made stands behind what there was -/
theorem wl_callY {f : FuncId} {xs : List Operand} {vs : List Value} {ats : Array TypeId} {X : Type} {val : X → Value} {φ : X → Prop} {news : X → List (Nat × Obj)} (hg : gdv ops L g = some true) (hd : Nat.blt d n = true)
    (hh : Has P f) (hv : evos L xs = some vs) (hc : ∀ w, St M w0 w H → Calls P f vs.toArray w (Gives val φ w (fun _ => []) news)) (h : ∀ x, φ x → Wl P ops Q M w0 n D rest ((d, val x) :: L) (H ++ ents (news x))) :
    Wl P ops Q M w0 n D (⟨some d, .call { callee := .value (.func f), args := xs.toArray, argTypes := ats }, oty, pos, after, g⟩ :: rest) L H :=
  wl_callX hg hd hh hv hc fun x hx => by
    have := h x hx
    unfold Wl at this ⊢
    exact fun a w hf hs => this a w hf (hs.perm List.perm_append_comm)
end
end Go.PB
namespace Go.Proofs.Ythmkggadgcdmfaa
open Go.PB Go.RowKit
attribute [local irreducible] Go.Calls
theorem ownH_none (e : TypeId) : ownH e none = [] := rfl
theorem ownH_some (e : TypeId) (b cap : Nat) (cur : Array Value) : ownH e (some (b, cap, cur)) = [⟨b, true, .cells cur e (0, 0)⟩] := rfl
theorem ownV_none (n : Nat) : ownV n none = .slice none 0 0 := rfl
theorem ownV_some (n b cap : Nat) (cur : Array Value) : ownV n (some (b, cap, cur)) = .slice (some ⟨b, 0, none⟩) n cap := rfl
theorem lexF_len (s : List UInt8) : ∀ (f i : Nat) (acc : List Tk), acc.length ≤ 2048 → (lexF s f i acc).1.length ≤ 2048
  | 0, _, acc, h => h
  | f + 1, i, acc, h => by
    simp only [lexF]
    split
    · simp
    · split
      · exact h
      · split
        · simp
        · rename_i he
          have he := Decidable.not_not.1 he
          refine lexF_len s f _ _ ?_
          have : acc.length ≠ 2048 := fun hc => by
            have h0 := err_tok he
            unfold errAt at he
            rw [if_pos ⟨.inl h0, hc⟩] at he
            cases he
          simp
          omega
theorem lexS_len (s : List UInt8) : (lexS s).1.length ≤ 2048 := by
  unfold lexS
  split
  · simp
  · exact lexF_len s _ _ _ (by simp)
set_option maxRecDepth 100000 in
set_option maxHeartbeats 4000000 in
theorem readsLaw_ok (s : List UInt8) (hl : s.length ≤ 9223372036854775807) (w : World) (hm : Mx w) : Calls Try.prog 3 #[st s] w (Give (.bool true) w) := by
  refine give_of_W (vs := [st s]) Try.func3 rfl Try.ntmps3 (Nat.le_of_ble_eq_true rfl) (St.nil w _) ?_
  simp only [argL]
  obtain ⟨t, ht⟩ : ∃ t, s.take 8193 = t := ⟨_, rfl⟩
  have htl : t.length ≤ 8193 := by rw [← ht]; simp; omega
  obtain ⟨⟨T, e, p⟩, hR⟩ : ∃ R, lexS t = R := ⟨_, rfl⟩
  have hT : T.length ≤ 2048 := by have := lexS_len t; rw [hR] at this; exact this
  have sh : ∀ w, Calls Try.prog 11 #[st s] w (Give (st t) w) := fun w => by rw [← ht]; exact short_ok s hl w
  have l1 : ∀ w, Calls Try.prog 12 #[st t] w (Gives (fun o : Ow => .tuple #[ownV T.length o, spotV e (p : Nat)]) (fun o => ownOk T.length 5 (tksC T) o) w (fun _ => []) (owN 33)) := fun w => by
    have := lex10_ok t (by omega) w
    rw [hR] at this
    exact this
  have l2 : ∀ w, Mx w → Calls Try.prog 13 #[st t] w (Gives (fun o : Ow => .tuple #[ownV T.length o, spotV e (p : Nat)]) (fun o => ownOk T.length 5 (tksC T) o) w (fun _ => []) (owN 33)) := fun w h => by
    have := lex_ok t (by omega) w h
    rw [hR] at this
    exact this
  repeat' (first | ((show Wl _ _ _ _ _ _ _ _ _ _); first | (apply Wl.ev rfl rfl; (focus (first | ((show Ev _ _ _ _ _ _ _ (.move _) _ _); first | exact ev_move rfl) | ((show Ev _ _ _ _ _ _ _ (.assign _) _ _); first | exact ev_assign rfl) | ((show Ev _ _ _ _ _ _ _ (.unOp _ _ _) _ _); first | exact ev_notT rfl) | ((show Ev _ _ _ _ _ _ _ (.extract _ _) _ _); first | exact ev_extract rfl rfl)))) | (refine wl_alloc rfl rfl (zeroT rfl) ?_; intro nb) | ((show Wl _ _ _ _ _ _ _ (⟨_, .call ⟨.value (.func 10), _, _⟩, _, _, _, _⟩ :: _) _ _); refine wl_call0 rfl rfl has10 rfl (fun w hs => wakes_ok w (hm.st hs (by simp))) ?_) | ((show Wl _ _ _ _ _ _ _ (⟨_, .call ⟨.value (.func 11), _, _⟩, _, _, _, _⟩ :: _) _ _); refine wl_call0 rfl rfl has11 rfl (fun w _ => sh w) ?_) | ((show Wl _ _ _ _ _ _ _ (⟨_, .call ⟨.value (.func 12), _, _⟩, _, _, _, _⟩ :: _) _ _); refine wl_callY rfl rfl has12 rfl (fun w _ => l1 w) ?_; intro o1 ho1; simp only [ents_owN, List.nil_append, List.cons_append]) | apply Wl.nil | (refine wl_storeWhole rfl rfl rfl (szT rfl) rfl (by repeat (first | exact Upd.here | apply Upd.there)) (by rfl) ?_)) | ((show Wq _ _ _ _ _ _ _ _ _ _); first | (apply Wq.ev rfl rfl; (focus (first | ((show Ev _ _ _ _ _ _ _ (.move _) _ _); first | exact ev_move rfl) | ((show Ev _ _ _ _ _ _ _ (.assign _) _ _); first | exact ev_assign rfl) | ((show Ev _ _ _ _ _ _ _ (.unOp _ _ _) _ _); first | exact ev_notT rfl) | ((show Ev _ _ _ _ _ _ _ (.extract _ _) _ _); first | exact ev_extract rfl rfl))))) | ((show W _ _ _ _ _ _ _ _ _); first | apply W.seq | apply W.region | apply W.block | apply W.skip | (refine W.condF rfl ?_)))
  refine W.loop (X := Nat) (fun r => [(0, st t), (3, ownV T.length o1), (4, ptr nb), (5, .int .i64 (r : Nat))]) (fun _ => ⟨nb, true, row [.int .i64 e, .int .i64 (p : Nat)] 27⟩ :: ownH 33 o1) (fun r => r ≤ 2) (fun r => 2 - r) 0 (by omega) (by repeat (first | exact SubL.nil | refine SubL.cons rfl ?_)) (by repeat (first | exact SubH.nil | apply SubH.keep | apply SubH.drop | exact List.Sublist.refl _)) ?_
  intro r hr
  by_cases hr2 : r < 2
  · repeat' (first | ((show Wl _ _ _ _ _ _ _ _ _ _); first | (apply Wl.ev rfl rfl; (focus (first | ((show Ev _ _ _ _ _ _ _ (.move _) _ _); first | exact ev_move rfl) | ((show Ev _ _ _ _ _ _ _ (.load _ _) _ _); first | exact ev_loadWhole (agT rfl) (szT rfl) rfl (by repeat (first | exact List.Mem.head _ | apply List.Mem.tail)) rfl) | ((show Ev _ _ _ _ _ _ _ (.assign _) _ _); first | exact ev_assign rfl) | ((show Ev _ _ _ _ _ _ _ (.pick _ _ _) _ _); first | exact ev_pickF rfl rfl) | ((show Ev _ _ _ _ _ _ _ (.binOp _ _ _ _ _) _ _); first | exact ev_neFlatD (p := True) (flatT rfl) rfl rfl rfl (by simp [eqL, eqC]) | exact ev_lti rfl rfl) | ((show Ev _ _ _ _ _ _ _ (.unOp _ _ _) _ _); first | exact ev_notT rfl) | ((show Ev _ _ _ _ _ _ _ (.extract _ _) _ _); first | exact ev_extract rfl rfl) | ((show Ev _ _ _ _ _ _ _ (.call _) _ _); first | exact ev_len_slice (slT rfl) rfl)))) | ((show Wl _ _ _ _ _ _ _ (⟨_, .call ⟨.value (.func 13), _, _⟩, _, _, _, _⟩ :: _) _ _); refine wl_callX rfl rfl has13 rfl (fun w hs => l2 w (hm.st hs (by simp)) ) ?_; intro o2 ho2; rcases o2 with _ | ⟨b2, cap2, cur2⟩ <;> simp only [ents_owN, ownH_none, ownH_some, ownV_none, ownV_some, List.singleton_append, List.nil_append]; try simp only [ents, List.map_cons, List.map_nil, List.cons_append, List.nil_append]) | ((show Wl _ _ _ _ _ _ _ (⟨_, .call ⟨.value (.func 14), _, _⟩, _, _, _, _⟩ :: _) _ _); refine wl_call0 rfl rfl has14 rfl (fun w hs => Give.to (all_ok _ _ T T w (TokAt.own hs ho2 (by simp [ownH_none, ownH_some])) (TokAt.own hs ho1 (fun p hp => by simp [hp])) (by omega) (by omega)) (congrArg Value.bool (decide_eq_true rfl))) ?_) | apply Wl.nil | (refine wl_alloc rfl rfl (zeroT rfl) ?_; intro b) | (refine wl_storeWhole rfl rfl rfl (szT rfl) rfl (by repeat (first | exact Upd.here | apply Upd.there)) (by rfl) ?_)) | ((show Wq _ _ _ _ _ _ _ _ _ _); first | (apply Wq.ev rfl rfl; (focus (first | ((show Ev _ _ _ _ _ _ _ (.move _) _ _); first | exact ev_move rfl) | ((show Ev _ _ _ _ _ _ _ (.load _ _) _ _); first | exact ev_loadWhole (agT rfl) (szT rfl) rfl (by repeat (first | exact List.Mem.head _ | apply List.Mem.tail)) rfl) | ((show Ev _ _ _ _ _ _ _ (.assign _) _ _); first | exact ev_assign rfl) | ((show Ev _ _ _ _ _ _ _ (.pick _ _ _) _ _); first | exact ev_pickF rfl rfl) | ((show Ev _ _ _ _ _ _ _ (.binOp _ _ _ _ _) _ _); first | exact ev_neFlatD (p := True) (flatT rfl) rfl rfl rfl (by simp [eqL, eqC]) | exact ev_lti rfl rfl) | ((show Ev _ _ _ _ _ _ _ (.unOp _ _ _) _ _); first | exact ev_notT rfl) | ((show Ev _ _ _ _ _ _ _ (.extract _ _) _ _); first | exact ev_extract rfl rfl) | ((show Ev _ _ _ _ _ _ _ (.call _) _ _); first | exact ev_len_slice (slT rfl) rfl))))) | ((show W _ _ _ _ _ _ _ _ _); first | apply W.seq | apply W.region | apply W.block | apply W.skip | (refine W.condF rfl ?_) | (refine W.cond rfl ?_ ?_ <;> (intro h; try (exfalso; first | contradiction | omega | exact h rfl | exact h ⟨rfl, rfl⟩ | (simp_all; done))))))
    · obtain rfl : T = [] := List.eq_nil_of_length_eq_zero ho2.1
      repeat' (first | ((show Wl _ _ _ _ _ _ _ _ _ _); first | (apply Wl.ev rfl rfl; (focus (first | ((show Ev _ _ _ _ _ _ _ (.move _) _ _); first | exact ev_move rfl) | ((show Ev _ _ _ _ _ _ _ (.assign _) _ _); first | exact ev_assign rfl) | ((show Ev _ _ _ _ _ _ _ (.binOp _ _ _ _ _) _ _); first | exact ev_lti rfl rfl | exact ev_add64 rfl rfl (by omega))))) | apply Wl.nil) | ((show Wq _ _ _ _ _ _ _ _ _ _); first | (apply Wq.ev rfl rfl; (focus (first | ((show Ev _ _ _ _ _ _ _ (.move _) _ _); first | exact ev_move rfl) | ((show Ev _ _ _ _ _ _ _ (.assign _) _ _); first | exact ev_assign rfl) | ((show Ev _ _ _ _ _ _ _ (.binOp _ _ _ _ _) _ _); first | exact ev_lti rfl rfl | exact ev_add64 rfl rfl (by omega)))))) | ((show W _ _ _ _ _ _ _ _ _); first | apply W.seq | (refine W.again (r + 1) (by omega) (by omega) (by repeat (first | exact SubL.nil | refine SubL.cons rfl ?_)) (by repeat (first | exact SubH.nil | apply SubH.keep | apply SubH.drop | exact List.Sublist.refl _))) | (refine W.rounds 1 ?_) | apply W.round | apply W.region | apply W.blk | (refine W.exit rfl ?_) | (refine W.condF rfl ?_)))
    · obtain ⟨q1, _, q3, _, _⟩ := ho2
      dsimp only at q1 q3
      repeat' (first | ((show W _ _ _ _ _ _ _ _ _); first | (refine W.loop (X := Nat × Array Value) (fun x => [(0, st t), (3, ownV T.length o1), (4, ptr nb), (5, .int .i64 (r : Nat)), (6, .slice (some ⟨b2, 0, none⟩) T.length cap2), (37, .int .i64 (T.length : Nat)), (38, .int .i64 (x.1 : Nat))]) (fun x => ⟨b2, true, .cells x.2 33 (0, 0)⟩ :: ⟨nb, true, row [.int .i64 e, .int .i64 (p : Nat)] 27⟩ :: ownH 33 o1) (fun x => x.1 ≤ T.length ∧ x.2.size = cap2 * 5) (fun x => T.length - x.1) (0, cur2) ⟨Nat.zero_le _, q3⟩ (by repeat (first | exact SubL.nil | refine SubL.cons rfl ?_)) (by repeat (first | exact SubH.nil | apply SubH.keep | apply SubH.drop | exact List.Sublist.refl _)) ?_)))
      rintro ⟨j, cur⟩ ⟨hj, hc⟩
      dsimp only at hj hc ⊢
      by_cases hlt : j < T.length
      · have hfit : ∀ off, off = j * 5 → off + 5 ≤ cur.size := fun off h => by
          rw [h, hc]
          omega
        repeat' (first | ((show Wl _ _ _ _ _ _ _ _ _ _); first | (apply Wl.ev rfl rfl; (focus (first | ((show Ev _ _ _ _ _ _ _ (.move _) _ _); first | exact ev_move rfl) | ((show Ev _ _ _ _ _ _ _ (.assign _) _ _); first | exact ev_assign rfl) | ((show Ev _ _ _ _ _ _ _ (.binOp _ _ _ _ _) _ _); first | exact ev_lti rfl rfl | exact ev_add64 rfl rfl (by omega)) | ((show Ev _ _ _ _ _ _ _ (.build _ _) _ _); first | (apply ev_build (bldT rfl) rfl; simp [fillP]; rfl)) | ((show Ev _ _ _ _ _ _ _ (.indexAddr _ _ _) _ _); first | exact ev_indexAddr (slT rfl) (szT rfl) rfl rfl (by omega))))) | ((show Wl _ _ _ _ _ _ _ (⟨_, .store _ _ _, _, _, _, _⟩ :: _) _ _); refine wl_storeAny (b := b2) (c := cur) (H' := fun c' => ⟨b2, true, .cells c' 33 (0, 0)⟩ :: ⟨nb, true, row [.int .i64 e, .int .i64 (p : Nat)] 27⟩ :: ownH 33 o1) rfl rfl rfl (szT rfl) (fun c' => Upd.here) (hfit _ (by omega)) (by simp [Value.oneCell']) ?_; intro c' hc') | apply Wl.nil) | ((show Wq _ _ _ _ _ _ _ _ _ _); first | (apply Wq.ev rfl rfl; (focus (first | ((show Ev _ _ _ _ _ _ _ (.move _) _ _); first | exact ev_move rfl) | ((show Ev _ _ _ _ _ _ _ (.assign _) _ _); first | exact ev_assign rfl) | ((show Ev _ _ _ _ _ _ _ (.binOp _ _ _ _ _) _ _); first | exact ev_lti rfl rfl | exact ev_add64 rfl rfl (by omega)) | ((show Ev _ _ _ _ _ _ _ (.build _ _) _ _); first | (apply ev_build (bldT rfl) rfl; simp [fillP]; rfl)) | ((show Ev _ _ _ _ _ _ _ (.indexAddr _ _ _) _ _); first | exact ev_indexAddr (slT rfl) (szT rfl) rfl rfl (by omega)))))) | ((show W _ _ _ _ _ _ _ _ _); first | apply W.seq | apply W.region | apply W.block | apply W.blk | apply W.skip | (refine W.cond rfl ?_ ?_ <;> (intro h; try (exfalso; first | contradiction | omega | exact h rfl | exact h ⟨rfl, rfl⟩ | (simp_all; done))))))
        all_goals exact W.again (j + 1, c') ⟨hlt, hc'.trans hc⟩ (by dsimp only; omega) (by repeat (first | exact SubL.nil | refine SubL.cons rfl ?_)) (by repeat (first | exact SubH.nil | apply SubH.keep | apply SubH.drop | exact List.Sublist.refl _))
      · repeat' (first | ((show Wl _ _ _ _ _ _ _ _ _ _); first | (apply Wl.ev rfl rfl; (focus (first | ((show Ev _ _ _ _ _ _ _ (.move _) _ _); first | exact ev_move rfl) | ((show Ev _ _ _ _ _ _ _ (.assign _) _ _); first | exact ev_assign rfl) | ((show Ev _ _ _ _ _ _ _ (.binOp _ _ _ _ _) _ _); first | exact ev_lti rfl rfl | exact ev_add64 rfl rfl (by omega))))) | apply Wl.nil) | ((show Wq _ _ _ _ _ _ _ _ _ _); first | (apply Wq.ev rfl rfl; (focus (first | ((show Ev _ _ _ _ _ _ _ (.move _) _ _); first | exact ev_move rfl) | ((show Ev _ _ _ _ _ _ _ (.assign _) _ _); first | exact ev_assign rfl) | ((show Ev _ _ _ _ _ _ _ (.binOp _ _ _ _ _) _ _); first | exact ev_lti rfl rfl | exact ev_add64 rfl rfl (by omega)))))) | ((show W _ _ _ _ _ _ _ _ _); first | apply W.seq | (refine W.again (r + 1) (by omega) (by omega) (by repeat (first | exact SubL.nil | refine SubL.cons rfl ?_)) (by repeat (first | exact SubH.nil | apply SubH.keep | apply SubH.drop | exact List.Sublist.refl _))) | apply W.region | apply W.blk | (refine W.exit rfl ?_) | (refine W.cond rfl ?_ ?_ <;> (intro h; try (exfalso; first | contradiction | omega | exact h rfl | exact h ⟨rfl, rfl⟩ | (simp_all; done))))))
  · obtain rfl : r = 2 := by omega
    repeat' (first | ((show Wl _ _ _ _ _ _ _ _ _ _); first | (apply Wl.ev rfl rfl; (focus (first | ((show Ev _ _ _ _ _ _ _ (.move _) _ _); first | exact ev_move rfl) | ((show Ev _ _ _ _ _ _ _ (.assign _) _ _); first | exact ev_assign rfl) | ((show Ev _ _ _ _ _ _ _ (.binOp _ _ _ _ _) _ _); first | exact ev_lti rfl rfl)))) | apply Wl.nil) | ((show Wq _ _ _ _ _ _ _ _ _ _); first | (apply Wq.ev rfl rfl; (focus (first | ((show Ev _ _ _ _ _ _ _ (.move _) _ _); first | exact ev_move rfl) | ((show Ev _ _ _ _ _ _ _ (.assign _) _ _); first | exact ev_assign rfl) | ((show Ev _ _ _ _ _ _ _ (.binOp _ _ _ _ _) _ _); first | exact ev_lti rfl rfl))))) | ((show W _ _ _ _ _ _ _ _ _); first | apply W.seq | apply W.region | (refine W.exit rfl ?_) | (refine W.condF rfl ?_) | (refine W.ret1 rfl rfl ?_; intro w hs)))
    exact ret_eq hs rfl
end Go.Proofs.Ythmkggadgcdmfaa
