/- A walk of the closure that tells a token, replaced: the whole. No condition but the listed table's values. -/
import Derived.Test.YthhfandandfeeaaDoorMD
namespace Go.PB
open Go.RowKit
section
variable {P : Program} {M : List Nat} {w0 : World} {n : Nat} {D : List Deferred} {L : List (Nat × Value)} {H : List Ent} {oty t : TypeId} {x y : Operand}
theorem ev_lookup1_any {kt e : TypeId} {b c : Nat} {wr : Bool} {tab : Tab} {l : List UInt8} {v : Value} (ht : Mp P t kt e) (hz : ZeroV P e v) (hx : evo L x = some (.map (some b))) (hy : evo L y = some (.string ⟨l.toArray⟩)) (hm : (⟨b, wr, mobj tab c⟩ : Ent) ∈ H)
    {u : Value} (hu : (tget tab l).getD v = u) : Ev P M w0 n D L H (.lookup t x y false) oty u := by
  cases h : tget tab l with
  | none =>
    rw [h] at hu
    subst hu
    exact ev_lookup1_miss ht hz hx hy hm h
  | some q =>
    rw [h] at hu
    subst hu
    exact ev_lookup1_hit ht hx hy hm h
end
end Go.PB
namespace Go.Proofs.YthhfandandfeeaaDoor
open Go.PB Go.RowKit
attribute [local irreducible] Go.Calls
set_option maxRecDepth 100000 in
set_option maxHeartbeats 8000000 in
theorem rep_ok {e1 e2 e3 e4 e5 : TypeId} {ib tp ab lb rb mb wm tb a ln : Nat} {pv : Value} {V : Wds} {tab : Tab} {C : Nat} {wr : Bool} (hln : ln ≤ 10000) :
    ∀ (f : Nat) {dn c : Nat} {wi : List Nm} {wt : Tab} {out : List Tk} {oo : Ow} {t : Tk} {R : List Ent} {M : List Nat} {w0 w : World},
    WdAt R tab V → (⟨tb, wr, mobj tab C⟩ : Ent) ∈ R → Glob R → WiAt wt wi → ownOk out.length 5 (tksC out) oo → out.length ≤ 2048 → 2050 ≤ f + dn → dn ≤ 2048 →
    St M w0 w (PH e1 e2 e3 e4 e5 ib tp ab lb rb mb wm tb a ln pv (ownV out.length oo) (dn : Nat) wt c ++ (R ++ ownH 35 oo)) →
    Calls Tryd.prog 37 #[.agg (tkC t).toArray, ptr ib, ptr tp, ptr ab, ptr lb, ptr rb] w
      (GivesS (fun q : PutQ => .bool q.b) (fun q => ownOk (out ++ q.x).length 5 (tksC (out ++ q.x)) q.o ∧ Res (expF V a ln f wi dn t) out.length q) M w0
        (fun q => PH e1 e2 e3 e4 e5 ib tp ab lb rb mb wm tb a ln pv (ownV (out ++ q.x).length q.o) (q.d : Nat) wt q.c ++ (R ++ ownH 35 q.o))) := by
  intro f
  induction f with
  | zero => intro dn c wi wt out oo t R M w0 w _ _ _ _ _ _ h1 h2; omega
  | succ f ih =>
  intro dn c wi wt out oo t R M w0 w hV ht hG hwi ho hol hf hdn hst
  by_cases hs0 : t.k ≠ 1 ∨ wi.contains t.t = true ∨ standsB V t.t = false
  · exact rep_stay hV ht hwi ho hol hs0 hst
  have hk : t.k = 1 := Decidable.not_not.1 fun h => hs0 (.inl h)
  have hw : wi.contains t.t = false := by rw [Bool.eq_false_iff]; exact fun h => hs0 (.inr (.inl h))
  have hsd : standsB V t.t = true := by rw [← Bool.not_eq_false]; exact fun h => hs0 (.inr (.inr h))
  obtain ⟨r, hr⟩ : ∃ r, expF V a ln (f + 1) wi dn t = r := ⟨_, rfl⟩
  rw [hr]
  have hkw := hwi t.t
  rw [hw, if_neg Bool.false_ne_true] at hkw
  obtain ⟨tk, tt, tx, ta, tn⟩ := t
  dsimp only at hk hw hsd hkw
  subst hk
  simp only [PH, List.cons_append, List.nil_append] at hst
  have fin : ∀ {w' : World} {H1 : List Ent} {q : PutQ}, St _ w w' H1 → ownOk (out ++ q.x).length 5 (tksC (out ++ q.x)) q.o → Res r out.length q →
      SubH (PH e1 e2 e3 e4 e5 ib tp ab lb rb mb wm tb a ln pv (ownV (out ++ q.x).length q.o) (q.d : Nat) wt q.c ++ (R ++ ownH 35 q.o)) H1 →
      GivesS (fun q : PutQ => .bool q.b) (fun q => ownOk (out ++ q.x).length 5 (tksC (out ++ q.x)) q.o ∧ Res r out.length q) M w0
        (fun q => PH e1 e2 e3 e4 e5 ib tp ab lb rb mb wm tb a ln pv (ownV (out ++ q.x).length q.o) (q.d : Nat) wt q.c ++ (R ++ ownH 35 q.o)) (.returned (.bool q.b)) w' := fun {w' H1 q} hs h1 h2 hH => GivesS.of hst hs q ⟨h1, h2⟩ rfl hH
  have sd : ∀ {M : List Nat} {w0 w : World} {H : List Ent}, St M w0 w H → (⟨mb, true, mrow tb pv (ownV out.length oo) (dn : Nat)⟩ : Ent) ∈ H → (⟨tb, wr, mobj tab C⟩ : Ent) ∈ H → Calls Tryd.prog 36 #[ptr mb, st tt] w (Give (.bool true) w) := fun hs h1 h2 => by
    have := stands_ok tt hs h1 h2 hV
    rwa [hsd] at this
  obtain ⟨lv, hlv⟩ : ∃ lv, (tget tab tt).getD (.slice none 0 0) = lv := ⟨_, rfl⟩
  refine calls_of_WB (vs := [.agg (tkC ⟨1, tt, tx, ta, tn⟩).toArray, ptr ib, ptr tp, ptr ab, ptr lb, ptr rb]) Tryd.func37 rfl Tryd.ntmps37 (Nat.le_of_ble_eq_true rfl) hst.fromHere ?_
  simp only [argL, Nat.zero_add, Nat.reduceAdd, tkC]
  by_cases hd : 2048 ≤ dn
  · rw [expF_over hs0 hd] at hr
    repeat' (first | (apply gL; first | (apply Wl.ev rfl rfl; (focus (first | exact ev_move rfl | (apply gLoa; first | exact ev_load (agT rfl) rfl (by repeat (first | exact List.Mem.head _ | apply List.Mem.tail)) rfl) | (apply gFie; first | exact ev_fieldAddr0 (fldT rfl) rfl) | exact ev_assign rfl | exact ev_pickF rfl rfl | (apply gBin; first | exact ev_nei rfl rfl | exact ev_gti rfl rfl | exact ev_add64 rfl rfl (by omega)) | exact ev_notT rfl | exact ev_nilCheck_ptr rfl | exact ev_lookup1_miss (mpT rfl) (by rfl) rfl rfl (by repeat (first | exact List.Mem.head _ | apply List.Mem.tail)) hkw))) | ((show Wl _ _ _ _ _ _ _ (⟨_, .call ⟨.value (.func 36), _, _⟩, _, _, _, _⟩ :: _) _ _); refine wl_call0 rfl rfl has36 rfl (fun w hs => sd hs (by repeat (first | exact List.Mem.head _ | apply List.Mem.tail)) (by repeat (first | exact List.mem_append_left _ ht | apply List.Mem.tail))) ?_) | apply Wl.nil | (refine wl_box rfl rfl rfl rfl ?_; intro b) | (refine wl_store1 rfl rfl rfl rfl (szT rfl) (by repeat (first | exact Upd.here | apply Upd.there)) (by first | decide | (simp; done)) ?_; try simp only [List.set])) | (apply gQ; first | (apply Wq.ev rfl rfl; (focus (first | exact ev_move rfl | (apply gLoa; first | exact ev_load (agT rfl) rfl (by repeat (first | exact List.Mem.head _ | apply List.Mem.tail)) rfl) | (apply gFie; first | exact ev_fieldAddr0 (fldT rfl) rfl) | exact ev_assign rfl | exact ev_pickF rfl rfl | (apply gBin; first | exact ev_nei rfl rfl | exact ev_gti rfl rfl | exact ev_add64 rfl rfl (by omega)) | exact ev_notT rfl | exact ev_nilCheck_ptr rfl | exact ev_lookup1_miss (mpT rfl) (by rfl) rfl rfl (by repeat (first | exact List.Mem.head _ | apply List.Mem.tail)) hkw)))) | ((show W _ _ _ _ _ _ _ _ _); first | apply W.seq | (refine W.retB0 rfl rfl ?_; intro w hs) | apply W.region | apply W.skip | (refine W.condF rfl ?_) | (refine W.cond rfl ?_ ?_ <;> (intro h; try (exfalso; first | contradiction | omega | exact h rfl | exact h ⟨rfl, rfl⟩ | (simp_all; done))))))
    all_goals exact fin (q := ⟨false, [], dn + 1, c, oo⟩) hs (by simpa using ho) (.inr ⟨rfl, .inl hr.symm⟩) (by simp only [PH, List.append_nil, List.cons_append, List.nil_append]; exact (by repeat (first | exact SubH.nil | apply SubH.keep | apply SubH.drop | exact List.Sublist.refl _)))
  · rw [expF_body hs0 hd] at hr
    dsimp only at hr
    have nb1 : ∀ w, Mx w → Pows w → Calls Tryd.prog 20 #[.int .i64 ((ln : Nat) + 1)] w (Gives (fun o : Ow => ownV 1 o) (fun o => ownOk 1 5 (tksC [numT (ln + 1)]) o) w (fun _ => []) (owN 35)) := fun w hm hp => pnumber_ok (ln + 1) (by omega) (by omega) (by omega) w hm hp
    have nb2 : ∀ w, Mx w → Pows w → Calls Tryd.prog 20 #[.int .i64 100] w (Gives (fun o : Ow => ownV 1 o) (fun o => ownOk 1 5 (tksC [numT 100]) o) w (fun _ => []) (owN 35)) := fun w hm hp => pnumber_ok 100 (by omega) (by omega) (by omega) w hm hp
    repeat' (first | (apply gL; first | (apply Wl.ev rfl rfl; (focus (first | exact ev_move rfl | (apply gLoa; first | exact ev_load (agT rfl) rfl (by repeat (first | exact List.Mem.head _ | apply List.Mem.tail)) rfl) | (apply gFie; first | exact ev_fieldAddr0 (fldT rfl) rfl) | exact ev_assign rfl | exact ev_pickF rfl rfl | (apply gBin; first | exact ev_eqs rfl rfl | exact ev_nei rfl rfl | exact ev_gti rfl rfl | exact ev_add64 rfl rfl (by omega)) | exact ev_notT rfl | exact ev_nilCheck_ptr rfl | exact ev_lookup1_miss (mpT rfl) (by rfl) rfl rfl (by repeat (first | exact List.Mem.head _ | apply List.Mem.tail)) hkw | exact ev_lookup1_any (mpT rfl) (by rfl) rfl rfl (by repeat (first | exact List.mem_append_left _ ht | apply List.Mem.tail)) hlv))) | ((show Wl _ _ _ _ _ _ _ (⟨_, .call ⟨.value (.func 36), _, _⟩, _, _, _, _⟩ :: _) _ _); refine wl_call0 rfl rfl has36 rfl (fun w hs => sd hs (by repeat (first | exact List.Mem.head _ | apply List.Mem.tail)) (by repeat (first | exact List.mem_append_left _ ht | apply List.Mem.tail))) ?_) | ((show Wl _ _ _ _ _ _ _ (⟨_, .call ⟨.value (.func 20), _, _⟩, _, _, _, _⟩ :: _) _ _); refine wl_callX rfl rfl has20 rfl (fun w hs => by have hg := hG.sub hs (by repeat (first | exact List.sublist_append_left _ _ | apply SubH.drop)); first | exact nb1 w hg.1 hg.2 | exact nb2 w hg.1 hg.2) ?_; intro on hon; obtain ⟨b9, ncap, ncur, rfl, q1, q2, q3⟩ := own_some hon (by decide); simp only [ents_owN, ownH_some, ownV_some, List.cons_append, List.nil_append] at hon ⊢) | apply Wl.nil | (refine wl_box rfl rfl rfl rfl ?_; intro b) | (refine wl_store1 rfl rfl rfl rfl (szT rfl) (by repeat (first | exact Upd.here | apply Upd.there)) (by first | decide | (simp; done)) ?_; try simp only [List.set])) | (apply gQ; first | (apply Wq.ev rfl rfl; (focus (first | exact ev_move rfl | (apply gLoa; first | exact ev_load (agT rfl) rfl (by repeat (first | exact List.Mem.head _ | apply List.Mem.tail)) rfl) | (apply gFie; first | exact ev_fieldAddr0 (fldT rfl) rfl) | exact ev_assign rfl | exact ev_pickF rfl rfl | (apply gBin; first | exact ev_eqs rfl rfl | exact ev_nei rfl rfl | exact ev_gti rfl rfl | exact ev_add64 rfl rfl (by omega)) | exact ev_notT rfl | exact ev_nilCheck_ptr rfl | exact ev_lookup1_miss (mpT rfl) (by rfl) rfl rfl (by repeat (first | exact List.Mem.head _ | apply List.Mem.tail)) hkw | exact ev_lookup1_any (mpT rfl) (by rfl) rfl rfl (by repeat (first | exact List.mem_append_left _ ht | apply List.Mem.tail)) hlv))) | apply Wq.nil) | ((show W _ _ _ _ _ _ _ _ _); first | apply W.seq | ((show W _ _ _ _ _ _ (.inl (.block 0 _) :: .inl _ :: _) _ _); refine W.join (X := Value × List Ent) (fun x => [(1, ptr ib), (2, ptr tp), (3, ptr ab), (4, ptr lb), (5, ptr rb), (6, .pointer (some ⟨b, 0, none⟩)), (8, x.1)]) (fun x => ⟨b, true, row (tkC ⟨1, tt, tx, ta, tn⟩) 35⟩ :: (PH e1 e2 e3 e4 e5 ib tp ab lb rb mb wm tb a ln pv (ownV out.length oo) ((dn : Nat) + 1) wt c ++ (x.2 ++ ownH 35 oo))) (fun x => RdE x.2 x.1 (bodyW V tt ln) ∧ SubH R x.2) ?_ ?_) | (refine W.regionQ mixed (by kernel_rfl) ?_) | apply W.region | apply W.block | apply W.blk | apply W.skip | (refine W.condF rfl ?_) | (refine W.cond rfl ?_ ?_ <;> (intro h; try (exfalso; first | contradiction | omega | exact h rfl | exact h ⟨rfl, rfl⟩ | (simp_all; done))))))
    · refine W.reH (H' := ⟨b, true, row (tkC ⟨1, tt, tx, ta, tn⟩) 35⟩ :: (PH e1 e2 e3 e4 e5 ib tp ab lb rb mb wm tb a ln pv (ownV out.length oo) ((dn : Nat) + 1) wt c ++ ((⟨b9, true, .cells ncur 35 (0, 0)⟩ :: R) ++ ownH 35 oo))) (fun w hs => hs.perm (List.perm_middle (l₁ := ⟨b, true, row (tkC ⟨1, tt, tx, ta, tn⟩) 35⟩ :: PH e1 e2 e3 e4 e5 ib tp ab lb rb mb wm tb a ln pv (ownV out.length oo) ((dn : Nat) + 1) wt c) (l₂ := R ++ ownH 35 oo)).symm) ?_
      refine W.meet (.slice (some ⟨b9, 0, none⟩) 1 ncap, ⟨b9, true, .cells ncur 35 (0, 0)⟩ :: R) ⟨?_, SubH.drop (List.Sublist.refl _)⟩ (by repeat (first | exact SubL.nil | refine SubL.cons rfl ?_)) (List.Sublist.refl _)
      rw [show bodyW V tt ln = [numT (ln + 1)] from by unfold bodyW; rw [if_pos (show tt = nLINE from by assumption)]]
      exact RdE.own (l := [numT (ln + 1)]) (o := some (b9, ncap, ncur)) hon (fun p hp => by rw [ownH_some, List.mem_singleton] at hp; rw [hp]; exact List.Mem.head _)
    · refine W.reH (H' := ⟨b, true, row (tkC ⟨1, tt, tx, ta, tn⟩) 35⟩ :: (PH e1 e2 e3 e4 e5 ib tp ab lb rb mb wm tb a ln pv (ownV out.length oo) ((dn : Nat) + 1) wt c ++ ((⟨b9, true, .cells ncur 35 (0, 0)⟩ :: R) ++ ownH 35 oo))) (fun w hs => hs.perm (List.perm_middle (l₁ := ⟨b, true, row (tkC ⟨1, tt, tx, ta, tn⟩) 35⟩ :: PH e1 e2 e3 e4 e5 ib tp ab lb rb mb wm tb a ln pv (ownV out.length oo) ((dn : Nat) + 1) wt c) (l₂ := R ++ ownH 35 oo)).symm) ?_
      refine W.meet (.slice (some ⟨b9, 0, none⟩) 1 ncap, ⟨b9, true, .cells ncur 35 (0, 0)⟩ :: R) ⟨?_, SubH.drop (List.Sublist.refl _)⟩ (by repeat (first | exact SubL.nil | refine SubL.cons rfl ?_)) (List.Sublist.refl _)
      rw [show bodyW V tt ln = [numT 100] from by unfold bodyW; rw [if_neg (show ¬tt = nLINE from by assumption), if_pos (show tt = nVER from by assumption)]]
      exact RdE.own (l := [numT 100]) (o := some (b9, ncap, ncur)) hon (fun p hp => by rw [ownH_some, List.mem_singleton] at hp; rw [hp]; exact List.Mem.head _)
    · refine W.meet (lv, R) ⟨?_, List.Sublist.refl _⟩ (by repeat (first | exact SubL.nil | refine SubL.cons rfl ?_)) (List.Sublist.refl _)
      have g1 : ¬tt = nLINE := by assumption
      have g2 : ¬tt = nVER := by assumption
      unfold bodyW
      rw [if_neg g1, if_neg g2]
      have := hV.2 tt
      unfold standsB at hsd
      cases hx : wget V tt with
      | none =>
        rw [hx] at hsd
        simp [g1, g2] at hsd
      | some l =>
        rw [hx] at this
        obtain ⟨v, h1, h2, _⟩ := this
        rw [h1] at hlv
        dsimp only [Option.getD_some] at hlv ⊢
        rwa [← hlv]
    · rintro ⟨v, R'⟩ ⟨hv, hR⟩
      dsimp only at hv hR ⊢
      simp only [PH, List.cons_append, List.nil_append, tkC]
      obtain ⟨bl, hbl⟩ : ∃ bl, bodyW V tt ln = bl := ⟨_, rfl⟩
      have hbn : bl.length ≤ 2048 := by
        rw [← hbl]
        unfold bodyW
        split
        · simp
        · split
          · simp
          · have := hV.2 tt
            cases hx : wget V tt with
            | none => simp
            | some l =>
              rw [hx] at this
              exact this.choose_spec.2.2
      rw [hbl] at hr hv
      obtain ⟨p, c0, rfl⟩ := hv.len
      have hclk : tclock wt tt c = c + 1 := by unfold tclock; rw [hkw]; rfl
      repeat' (first | (apply gL; first | (apply Wl.ev rfl rfl; (focus (first | exact ev_move rfl | (apply gLoa; first | exact ev_load (agT rfl) rfl (by repeat (first | exact List.Mem.head _ | apply List.Mem.tail)) rfl) | (apply gFie; first | exact ev_fieldAddr0 (fldT rfl) rfl) | (apply gCal; first | exact ev_len_slice (slT rfl) rfl)))) | (refine wl_mapUpdate (tab' := wt ++ [(tt, .bool true, c)]) (c' := c + 1) rfl (mpT rfl) rfl rfl rfl (by repeat (first | exact List.Mem.head _ | apply List.Mem.tail)) (tput_app _ _ hkw) hclk (by repeat (first | exact Upd.here | apply Upd.there)) ?_) | (refine wl_deferDelete0 rfl rfl rfl ?_; intro cs) | apply Wl.nil) | (apply gQ; first | (apply Wq.ev rfl rfl; (focus (first | exact ev_move rfl | (apply gLoa; first | exact ev_load (agT rfl) rfl (by repeat (first | exact List.Mem.head _ | apply List.Mem.tail)) rfl) | (apply gFie; first | exact ev_fieldAddr0 (fldT rfl) rfl) | (apply gCal; first | exact ev_len_slice (slT rfl) rfl))))) | ((show W _ _ _ _ _ _ _ _ _); first | apply W.seq | (refine W.loop (X := Nat × PutQ) (fun x => [(1, ptr ib), (2, ptr tp), (3, ptr ab), (4, ptr lb), (5, ptr rb), (82, .slice p bl.length c0), (83, .int .i64 (bl.length : Nat)), (84, .int .i64 (x.1 : Nat))]) (fun x => PH e1 e2 e3 e4 e5 ib tp ab lb rb mb wm tb a ln pv (ownV (out.length + x.2.x.length) x.2.o) (x.2.d : Nat) (wt ++ [(tt, .bool true, c)]) x.2.c ++ (R' ++ ownH 35 x.2.o)) (fun x => x.1 ≤ bl.length ∧ runL (expF V a ln f (tt :: wi)) (dn + 1) (bl.take x.1) = some (x.2.x, x.2.d) ∧ ownOk (out.length + x.2.x.length) 5 (tksC out ++ tksC x.2.x) x.2.o ∧ out.length + x.2.x.length ≤ 2048) (fun x => bl.length - x.1) (0, ⟨true, [], dn + 1, c + 1, oo⟩) ⟨Nat.zero_le _, rfl, by simpa [tksC] using ho, by simpa using hol⟩ (by repeat (first | exact SubL.nil | refine SubL.cons rfl ?_)) (by simp only [PH, List.cons_append, List.nil_append]; exact (by repeat (first | exact SubH.nil | apply SubH.keep | apply SubH.drop | exact List.Sublist.refl _))) ?_) | apply W.region | apply W.block))
      rintro ⟨j, ⟨qb, qx, qd, qc, qo⟩⟩ ⟨hj, hrun, hok, hle⟩
      dsimp only at hj hrun hok hle ⊢
      simp only [PH, List.cons_append, List.nil_append]
      by_cases hlt : j < bl.length
      · obtain ⟨b1, off, c1, arr, et, fr, wr1, he, hm, hcc, hg⟩ := hv.cons (by omega)
        cases he
        obtain ⟨⟨uk, ut, ux, ua, un⟩, hu⟩ : ∃ u, bl.getD j tk0 = u := ⟨_, rfl⟩
        have hg := hg j hlt
        have hmo := runL_mono (s := expF V a ln f (tt :: wi)) (b := 2048) (fun d u x d' h => expF_mono f (tt :: wi) d u x d' h) _ _ _ _ hrun
        rw [hu] at hg
        have hok' : ownOk (out ++ qx).length 5 (tksC (out ++ qx)) qo := by simpa [tksC] using hok
        have rp : ∀ {R2 : List Ent} {M : List Nat} {w0 w : World}, SubH R' R2 → St M w0 w (PH e1 e2 e3 e4 e5 ib tp ab lb rb mb wm tb a ln pv (ownV (out.length + qx.length) qo) (qd : Nat) (wt ++ [(tt, .bool true, c)]) qc ++ (R2 ++ ownH 35 qo)) →
            Calls Tryd.prog 37 #[.agg (tkC ⟨uk, ut, ux, ua, un⟩).toArray, ptr ib, ptr tp, ptr ab, ptr lb, ptr rb] w
              (GivesS (fun q : PutQ => .bool q.b) (fun q => ownOk ((out ++ qx) ++ q.x).length 5 (tksC ((out ++ qx) ++ q.x)) q.o ∧ Res (expF V a ln f (tt :: wi) qd ⟨uk, ut, ux, ua, un⟩) (out ++ qx).length q) M w0
                (fun q => PH e1 e2 e3 e4 e5 ib tp ab lb rb mb wm tb a ln pv (ownV ((out ++ qx) ++ q.x).length q.o) (q.d : Nat) (wt ++ [(tt, .bool true, c)]) q.c ++ (R2 ++ ownH 35 q.o))) := fun {R2 M w0 w} h2 hs => by
          have hRR := hR.trans h2
          refine ih ⟨hV.1, fun k => ?_⟩ (hRR.subset ht) (fun hs => hG (hs.sub hRR)) (hwi.put c hw) hok' (by rw [List.length_append]; exact hle) (by omega) (by omega) (by rw [List.length_append]; exact hs)
          have := hV.2 k
          revert this
          cases wget V k with
          | none => exact id
          | some l => exact fun ⟨v, h1, h3, h4⟩ => ⟨v, h1, h3.mono fun p hp => hRR.subset hp, h4⟩
        repeat' (first | (apply gL; first | (apply Wl.ev rfl rfl; (focus (first | exact ev_move rfl | (apply gLoa; first | exact ev_loadAggAt (agT rfl) (szT rfl) rfl (by repeat (first | exact List.mem_append_left _ hm | apply List.Mem.tail)) (fun i v h => hg i v h _ (by omega)) rfl | exact ev_load ⟨_, Tryd.underlying48, rfl⟩ rfl (by repeat (first | exact List.Mem.head _ | apply List.Mem.tail)) rfl | exact ev_loadWhole (agT rfl) (szT rfl) rfl (by repeat (first | exact List.Mem.head _ | apply List.Mem.tail)) rfl) | exact ev_assign rfl | (apply gBin; first | exact ev_lti rfl rfl | exact ev_add64 rfl rfl (by omega)) | (apply gUn; first | exact ev_notT rfl | exact ev_notF rfl) | (apply gIxA; first | exact ev_indexAddr (slT rfl) (szT rfl) rfl rfl (by omega))))) | ((show Wl _ _ _ _ _ _ _ (⟨_, .call ⟨.value (.tmp 88), _, _⟩, _, _, _, _⟩ :: _) _ _); refine wl_callC (cs := capL ib tp ab lb rb) rfl rfl has37 rfl rfl (fun w hs => rp (R2 := ⟨_, _, _⟩ :: R') (SubH.drop (List.Sublist.refl _)) (hs.perm (List.perm_middle (l₁ := PH e1 e2 e3 e4 e5 ib tp ab lb rb mb wm tb a ln pv (ownV (out.length + qx.length) qo) (qd : Nat) (wt ++ [(tt, .bool true, c)]) qc) (l₂ := R' ++ ownH 35 qo)).symm)) ?_; rintro ⟨qb2, qx2, qd2, qc2, qo2⟩ ⟨hok2, hres2⟩; dsimp only at hok2 hres2 ⊢; rcases hres2 with ⟨rfl, hr2, hl2⟩ | ⟨rfl, hbad⟩) | apply Wl.nil | (refine wl_alloc rfl rfl (zeroT rfl) ?_; intro b) | (refine wl_storeWhole rfl rfl rfl (szT rfl) rfl (by repeat (first | exact Upd.here | apply Upd.there)) (by rfl) ?_)) | (apply gQ; first | (apply Wq.ev rfl rfl; (focus (first | exact ev_move rfl | (apply gLoa; first | exact ev_loadAggAt (agT rfl) (szT rfl) rfl (by repeat (first | exact List.mem_append_left _ hm | apply List.Mem.tail)) (fun i v h => hg i v h _ (by omega)) rfl | exact ev_load ⟨_, Tryd.underlying48, rfl⟩ rfl (by repeat (first | exact List.Mem.head _ | apply List.Mem.tail)) rfl | exact ev_loadWhole (agT rfl) (szT rfl) rfl (by repeat (first | exact List.Mem.head _ | apply List.Mem.tail)) rfl) | exact ev_assign rfl | (apply gBin; first | exact ev_lti rfl rfl | exact ev_add64 rfl rfl (by omega)) | (apply gUn; first | exact ev_notT rfl | exact ev_notF rfl) | (apply gIxA; first | exact ev_indexAddr (slT rfl) (szT rfl) rfl rfl (by omega)))))) | ((show W _ _ _ _ _ _ _ _ _); first | apply W.seq | (refine W.retB1 rfl rfl (mpT rfl) (by repeat (first | exact Upd.here | apply Upd.there)) ?_; intro w hs; rw [tdel_app tt _ c hkw] at hs) | apply W.region | apply W.block | apply W.blk | apply W.skip | (refine W.condT rfl ?_) | (refine W.condF rfl ?_) | (refine W.cond rfl ?_ ?_ <;> (intro h; try (exfalso; first | contradiction | omega | exact h rfl | exact h ⟨rfl, rfl⟩ | (simp_all; done))))))
        · rw [show ((out ++ qx) ++ qx2).length = out.length + (qx ++ qx2).length from by simp [Nat.add_assoc]]
          exact W.again (j + 1, ⟨true, qx ++ qx2, qd2, qc2, qo2⟩) ⟨hlt, (runL_snoc hlt hrun).trans (by rw [hu, hr2]), by simpa [tksC, Nat.add_assoc] using hok2, by simp at hl2 ⊢; omega⟩ (by dsimp only; omega) (by repeat (first | exact SubL.nil | refine SubL.cons rfl ?_)) (by simp only [PH, List.cons_append, List.nil_append]; exact (by repeat (first | exact SubH.nil | apply SubH.keep | apply SubH.drop | exact List.Sublist.refl _)))
        · rw [show (out ++ qx ++ qx2) = out ++ (qx ++ qx2) from List.append_assoc ..] at hs
          simp only [List.append_eq, List.nil_append, List.cons_append] at hs
          exact fin (q := ⟨false, qx ++ qx2, qd2, qc2, qo2⟩) hs (by simpa using hok2) (.inr ⟨rfl, res_fail hlt hrun hr (by rw [hu]; simpa [Nat.add_assoc] using hbad)⟩) (by simp only [PH, List.cons_append, List.nil_append]; repeat (first | exact List.Sublist.append hR (List.Sublist.refl _) | apply SubH.keep | apply SubH.drop))
      · obtain rfl : j = bl.length := by omega
        rw [List.take_length] at hrun
        repeat' (first | (apply gL; first | (apply Wl.ev rfl rfl; (focus (first | exact ev_assign rfl | exact ev_lti rfl rfl))) | apply Wl.nil) | (apply gQ; first | (apply Wq.ev rfl rfl; (focus (first | exact ev_assign rfl | exact ev_lti rfl rfl)))) | ((show W _ _ _ _ _ _ _ _ _); first | apply W.seq | (refine W.retB1 rfl rfl (mpT rfl) (by repeat (first | exact Upd.here | apply Upd.there)) ?_; intro w hs; rw [tdel_app tt _ c hkw] at hs) | apply W.region | (refine W.exit rfl ?_) | (refine W.cond rfl ?_ ?_ <;> (intro h; try (exfalso; first | contradiction | omega | exact h rfl | exact h ⟨rfl, rfl⟩ | (simp_all; done))))))
        rw [show out.length + qx.length = (out ++ qx).length from List.length_append.symm] at hs
        exact fin (q := ⟨true, qx, qd, qc, qo⟩) hs (by simpa [tksC] using hok) (.inl ⟨rfl, by rw [← hr, hrun], hle⟩) (by simp only [PH, List.cons_append, List.nil_append]; repeat (first | exact List.Sublist.append hR (List.Sublist.refl _) | apply SubH.keep | apply SubH.drop))
end Go.Proofs.YthhfandandfeeaaDoor
