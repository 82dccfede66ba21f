/- A walk: what a text says to the layer that stands ahead of the parser, by the program. No condition but the listed table's values. -/
import Derived.Test.YthhfandandfeeaaDoorMM
namespace Go.Proofs.YthhfandandfeeaaDoor
open Go.PB Go.RowKit
attribute [local irreducible] Go.Calls
theorem preS_err {s : List UInt8} {T : List Tk} {e : Int} {p : Nat} (h : lexS s = (T, e, p)) (he : e ≠ 0) : preS s = ([], e, p) := by
  unfold preS
  rw [h, if_pos he]
def preR (n : Nat) : Ms ⊕ (Int × Nat) → List Tk × Int × Nat
  | .inr e => ([], e)
  | .inl m => if m.P = [] then (m.out, 0, 0) else ([], 210, n)
theorem preS_of {s : List UInt8} {T : List Tk} {p : Nat} (h : lexS s = (T, 0, p)) : preS s = preR s.length (rowsS true ⟨[(nES, [numT 1])], [], []⟩ (linesS T)) := by
  unfold preS
  rw [h, if_neg (by simp)]
  rfl
structure RunX where
  i : Nat
  V : Wds
  tab : Tab
  C : Nat
  P : List Pt
  po : Ow
  out : List Tk
  oo : Ow
  d : Int
set_option maxRecDepth 100000 in
set_option maxHeartbeats 8000000 in
theorem prun_ok (s : List UInt8) (hs : s.length ≤ 9223372036854775807) (w : World) (hm : Mx w) (hp : Pows w) :
    Calls Tryd.prog 10 #[st s] w (Gives (fun o : Ow => .tuple #[ownV (preS s).1.length o, spotV (preS s).2.1 ((preS s).2.2 : Nat)]) (fun o => ownOk (preS s).1.length 5 (tksC (preS s).1) o) w (fun _ => []) (owN 35)) := by
  obtain ⟨R0, hst0, hG0⟩ := glob_start hm hp
  obtain ⟨⟨T, e, p⟩, hR⟩ : ∃ R, lexS s = R := ⟨_, rfl⟩
  have lx := lexP_of hs hR
  refine calls_of_W (vs := [st s]) Tryd.func10 rfl Tryd.ntmps10 (Nat.le_of_ble_eq_true rfl) hst0 ?_
  simp only [argL]
  by_cases he : e = 0
  · subst he
    rw [preS_of hR]
    obtain ⟨hsl, hch, hTl⟩ := ch_of_lexS hR
    have hb := ch_bound hch
    have nb1 : ∀ w, Mx w → Pows w → Calls Tryd.prog 20 #[.int .i64 1] w (Gives (fun o : Ow => ownV 1 o) (fun o => ownOk 1 5 (tksC [numT 1]) o) w (fun _ => []) (owN 35)) := fun w hm hp => pnumber_ok 1 (by omega) (by omega) (by omega) w hm hp
    obtain ⟨Rs, hRs⟩ : ∃ Rs, rowsS true ⟨[(nES, [numT 1])], [], []⟩ (linesS T) = Rs := ⟨_, rfl⟩
    rw [hRs]
    repeat' (first | (apply gL; first | (apply Wl.ev rfl rfl; (focus (first | exact ev_move rfl | (apply gLoa; first | exact ev_load (agT rfl) rfl (by repeat (first | exact List.Mem.head _ | apply List.Mem.tail)) rfl) | (apply gFie; first | exact ev_fieldAddr0 (fldT rfl) rfl) | exact ev_assign rfl | exact ev_nei rfl rfl | exact ev_extract rfl rfl | (apply gBui; first | (apply ev_build (bldT rfl) rfl; simp [fillP]; rfl)) | (apply gCal; first | exact ev_len_own (slT rfl) hoz rfl)))) | ((show Wl _ _ _ _ _ _ _ (⟨some 3, .alloc _, _, _, _, _⟩ :: _) _ _); refine wl_alloc rfl rfl (zeroT rfl) ?_; intro sp3) | ((show Wl _ _ _ _ _ _ _ (⟨some 5, .alloc _, _, _, _, _⟩ :: _) _ _); refine wl_alloc rfl rfl (zeroT rfl) ?_; intro sp5) | ((show Wl _ _ _ _ _ _ _ (⟨_, .call ⟨.value (.func 15), _, _⟩, _, _, _, _⟩ :: _) _ _); refine wl_callY rfl rfl has15 rfl (fun w hs => lx w (hG0.sub hs (by repeat (first | exact List.Sublist.refl _ | apply SubH.drop))).1) ?_; intro o1 ho1; simp only [ents_owN, List.cons_append, List.nil_append]) | ((show Wl _ _ _ _ _ _ _ (⟨some 20, .makeMap _ _, _, _, _, _⟩ :: _) _ _); refine wl_makeMap rfl rfl ?_; intro tb) | ((show Wl _ _ _ _ _ _ _ (⟨some 24, .box _ _, _, _, _, _⟩ :: _) _ _); refine wl_box rfl rfl rfl rfl ?_; intro mb) | ((show Wl _ _ _ _ _ _ _ (⟨_, .call ⟨.value (.func 20), _, _⟩, _, _, _, _⟩ :: _) _ _); refine wl_callX rfl rfl has20 rfl (fun w hs => by have hg := hG0.sub hs (by repeat (first | exact List.sublist_append_left _ _ | apply SubH.drop)); exact nb1 w hg.1 hg.2) ?_; intro on hon; obtain ⟨nb, ncap, ncur, rfl, q1, q2, q3⟩ := own_some hon (by decide); simp only [ents_owN, ownH_some, ownV_some, List.cons_append, List.nil_append] at hon ⊢) | (refine wl_insert (tab' := [(nES, .slice (some ⟨nb, 0, none⟩) 1 ncap, 0)]) (c' := 1) rfl (mpT rfl) rfl rfl rfl (by repeat (first | exact List.Mem.head _ | apply List.Mem.tail)) rfl rfl (by repeat (first | exact Upd.here | apply Upd.there)) ?_) | ((show Wl _ _ _ _ _ _ _ (⟨_, .call ⟨.value (.func 13), _, _⟩, _, _, _, _⟩ :: _) _ _); refine wl_callS rfl rfl has13 rfl (fun w hs => lines_ok (l := T.map tiOf) ((RdE.own ho1 (fun p hp => by repeat (first | exact List.mem_append_right _ hp | apply List.Mem.tail))).toI) (by rw [List.length_map]; omega) hs) ?_; rintro ⟨Z, oz⟩ ⟨hZ, hZok, hoz⟩; dsimp only at hZ hZok hoz ⊢; simp only [List.cons_append]) | apply Wl.nil | (refine wl_storeWhole rfl rfl rfl (szT rfl) rfl (by repeat (first | exact Upd.here | apply Upd.there)) (by rfl) ?_)) | (apply gQ; first | (apply Wq.ev rfl rfl; (focus (first | exact ev_move rfl | (apply gLoa; first | exact ev_load (agT rfl) rfl (by repeat (first | exact List.Mem.head _ | apply List.Mem.tail)) rfl) | (apply gFie; first | exact ev_fieldAddr0 (fldT rfl) rfl) | exact ev_assign rfl | exact ev_nei rfl rfl | exact ev_extract rfl rfl | (apply gBui; first | (apply ev_build (bldT rfl) rfl; simp [fillP]; rfl)) | (apply gCal; first | exact ev_len_own (slT rfl) hoz rfl))))) | ((show W _ _ _ _ _ _ _ _ _); first | apply W.seq | apply W.region | apply W.block | apply W.skip | apply W.label | apply W.scope0 | (refine W.condF rfl ?_)))
    rw [linesJ_of] at hZ
    have hRok := linesS_ok T
    obtain ⟨L, hL⟩ : ∃ L, linesS T = L := ⟨_, rfl⟩
    rw [hL] at hZ hRok hRs
    have hZl : List.length Z = L.length := by simpa using congrArg List.length hZ
    have hLT : L.length ≤ T.length := by
      have := rows_le fun r hr => (hRok.row r hr).1
      rwa [hRok.all] at this
    have hTr : ∀ r ∈ L, ∀ t ∈ r, t ∈ T := fun r hr t ht => by
      rw [← hRok.all]
      exact List.mem_flatten.2 ⟨r, hr, ht⟩
    have hrl : ∀ r ∈ L, r.length ≤ 2048 := fun r hr => by
      have := (List.sublist_flatten_of_mem hr).length_le
      rw [hRok.all] at this
      omega
    rw [hZl]
    obtain ⟨RR, hRR⟩ : ∃ RR, (⟨nb, true, .cells ncur 35 (0, 0)⟩ :: ⟨sp5, true, row [.int .i64 0, .int .i64 (p : Nat)] 26⟩ :: (R0 ++ ownH 35 o1 ++ (blksZ Z ++ ownH 23 oz)) : List Ent) = RR := ⟨_, rfl⟩
    have hGR : Glob RR := fun hs => hG0 (hs.sub (by rw [← hRR]; exact SubH.drop (SubH.drop ((List.sublist_append_left _ _).trans (List.sublist_append_left _ _)))))
    have hW0 : WdAt RR [(nES, .slice (some ⟨nb, 0, none⟩) 1 ncap, 0)] [(nES, [numT 1])] := by
      refine ⟨by simp, fun k => ?_⟩
      simp only [wget, tget]
      by_cases hk : nES = k
      · rw [if_pos hk, if_pos hk]
        refine ⟨_, rfl, ?_, by simp⟩
        exact RdE.own (l := [numT 1]) (o := some (nb, ncap, ncur)) hon (fun p hp => by rw [ownH_some, List.mem_singleton] at hp; rw [hp, ← hRR]; exact List.Mem.head _)
      · rw [if_neg hk, if_neg hk]
    have hrow : ∀ i, i < L.length → ∃ ob ocap ocur o, oz = some (ob, ocap, ocur) ∧ (⟨ob, true, .cells ocur 23 (0, 0)⟩ : Ent) ∈ RR ∧ ocur[i]? = some (ownV (L.getD i []).length o) ∧ RdE RR (ownV (L.getD i []).length o) (L.getD i []) := fun i hi => by
      obtain ⟨ob, ocap, ocur, o, h1, h2, h3⟩ := rows_at hZ hZok hoz hi
      subst h1
      refine ⟨ob, ocap, ocur, o, rfl, ?_, h2, h3.mono fun p hp => ?_⟩
      · rw [← hRR, ownH_some]
        exact List.Mem.tail _ (List.Mem.tail _ (List.mem_append_right _ (List.mem_append_right _ (List.Mem.head _))))
      · rw [← hRR]
        exact List.Mem.tail _ (List.Mem.tail _ (List.mem_append_right _ (List.mem_append_left _ hp)))
    refine W.reH (H' := ⟨sp3, true, row [.int .i64 0, .int .i64 0] 26⟩ :: ⟨mb, true, mrow tb (ownV 0 none) (ownV 0 none) 0⟩ :: ⟨tb, true, mobj [(nES, .slice (some ⟨nb, 0, none⟩) 1 ncap, 0)] 1⟩ :: ((RR ++ ownH 71 none) ++ ownH 35 none)) (fun w hs => hs.perm (by rw [← hRR]; simp only [ownH_none, List.append_nil]; exact (by repeat (first | exact List.Perm.refl _ | apply List.Perm.cons | (refine (List.perm_middle (l₁ := [_])).trans ?_; apply List.Perm.cons) | (refine (List.perm_middle (l₁ := [_, _])).trans ?_; apply List.Perm.cons) | (refine (List.perm_middle (l₁ := [_, _, _])).trans ?_; apply List.Perm.cons) | (refine (List.perm_middle (l₁ := [_, _, _, _])).trans ?_; apply List.Perm.cons))))) ?_
    refine W.loop (X := RunX) (fun x => [(0, st s), (3, ptr sp3), (6, ptr mb), (26, ownV L.length oz), (27, .int .i64 (L.length : Nat)), (28, .int .i64 (x.i : Nat))])
      (fun x => ⟨sp3, true, row [.int .i64 0, .int .i64 0] 26⟩ :: ⟨mb, true, mrow tb (ownV x.P.length x.po) (ownV x.out.length x.oo) x.d⟩ :: ⟨tb, true, mobj x.tab x.C⟩ :: ((RR ++ ownH 71 x.po) ++ ownH 35 x.oo))
      (fun x => x.i ≤ L.length ∧ rowsS (decide (x.i = 0)) ⟨x.V, x.P, x.out⟩ (L.drop x.i) = Rs ∧ WdAt RR x.tab x.V ∧ ownOk x.P.length 3 (ptsC x.P) x.po ∧ ownOk x.out.length 5 (tksC x.out) x.oo ∧ x.out.length ≤ 2048 ∧ x.P.length ≤ x.i) (fun x => L.length - x.i) ⟨0, [(nES, [numT 1])], [(nES, .slice (some ⟨nb, 0, none⟩) 1 ncap, 0)], 1, [], none, [], none, 0⟩ ⟨Nat.zero_le _, hRs, hW0, ⟨rfl, rfl⟩, ⟨rfl, rfl⟩, Nat.zero_le _, Nat.le_refl _⟩ (by repeat (first | exact SubL.nil | refine SubL.cons rfl ?_)) (List.Sublist.refl _) ?_
    rintro ⟨i, V, tab, C, P, po, out, oo, d⟩ ⟨hi, hrs, hW, hpo, hoo, hol, hPi⟩
    dsimp only at hi hrs hW hpo hoo hol hPi ⊢
    by_cases hlt : i < L.length
    · obtain ⟨ob, ocap, ocur, ro, rfl, hob, hov, hrd⟩ := hrow i hlt
      obtain ⟨r, hr⟩ : ∃ r, L.getD i [] = r := ⟨_, rfl⟩
      rw [hr] at hov hrd
      have hrm : r ∈ L := by rw [← hr]; simp [List.getD, hlt]
      have hr0 := (hRok.row r hrm).1
      have hr8 := hrl r hrm
      rw [drop_getD [] hlt, hr, rowsS] at hrs
      obtain ⟨lv, hlv⟩ : ∃ lv, ownV r.length ro = lv := ⟨_, rfl⟩
      rw [hlv] at hov hrd
      have hgo : ∀ o, o = i * 1 → ocur[0 + o]? = some lv := fun o ho => by rw [ho, Nat.zero_add, Nat.mul_one]; exact hov
      have hmo : ∀ {a b c : Ent} {X Y : List Ent}, (⟨ob, true, .cells ocur 23 (0, 0)⟩ : Ent) ∈ a :: b :: c :: ((RR ++ X) ++ Y) := fun {a b c X Y} => List.Mem.tail _ (List.Mem.tail _ (List.Mem.tail _ (List.mem_append_left _ (List.mem_append_left _ hob))))
      rcases r with _ | ⟨h, rest⟩
      · exact absurd rfl hr0
      obtain ⟨b, off, c, o1', arr, et, fr, wr, rfl, ho1', hmR, hcc, hg, hv1⟩ := hrd.cons2
      have gk := hg 0 _ rfl
      have gt := hg 1 _ rfl
      have ga := hg 3 _ rfl
      have hm1 : ∀ {a b' c : Ent} {X Y : List Ent}, (⟨b, wr, .cells arr et fr⟩ : Ent) ∈ a :: b' :: c :: ((RR ++ X) ++ Y) := fun {a b' c X Y} => List.Mem.tail _ (List.Mem.tail _ (List.Mem.tail _ (List.mem_append_left _ (List.mem_append_left _ hmR))))
      have hsl' : Value.slice (some ⟨b, if c = (1 : Int).toNat then off else off + (1 : Int).toNat * 5, none⟩) (rest.length + 1 - (1 : Int).toNat) (c - (1 : Int).toNat) = .slice (some ⟨b, o1', none⟩) rest.length (c - 1) := by rw [← ho1']; rfl
      obtain ⟨hk, ht, hx, ha, hn⟩ := h
      simp only [rowS] at hrs
      have hb0 : Value.bool (decide ((i : Int) = 0)) = .bool (decide (i = 0)) := congrArg Value.bool (decide_eq_decide.2 (by omega))
      have hlr : rest.length ≤ 2048 := by simp only [List.length_cons] at hr8; omega
      have hltr : ∀ t ∈ rest, t.t.length ≤ 8192 := fun t ht => Nat.le_trans (hb t (hTr _ hrm t (List.Mem.tail _ ht))).1 hsl
      obtain ⟨B, hB⟩ : ∃ B, cntB P = B := ⟨_, rfl⟩
      have cn : ∀ {M : List Nat} {w0 w : World} {a b : Ent} {Y : List Ent}, St M w0 w (a :: ⟨mb, true, mrow tb (ownV P.length po) (ownV out.length oo) d⟩ :: b :: ((RR ++ ownH 71 po) ++ Y)) → Calls Tryd.prog 22 #[ptr mb] w (Give (.bool B) w) := fun hs => by
        rw [← hB]
        exact counts_ok hs (List.Mem.tail _ (List.Mem.head _)) hpo (fun p hp => List.Mem.tail _ (List.Mem.tail _ (List.Mem.tail _ (List.mem_append_left _ (List.mem_append_right _ hp))))) (by omega)
      repeat' (first | (apply gL; first | (apply Wl.ev rfl rfl; (focus (first | exact ev_move rfl | (apply gLoa; first | exact ev_loadAt (agT rfl) rfl hmo (hgo _ (by omega)) | exact ev_loadAt (agT rfl) rfl hm1 (gk _ (by omega)) | exact ev_loadAt (agT rfl) rfl hm1 (gt _ (by omega)) | exact ev_loadAt (agT rfl) rfl hm1 (ga _ (by omega))) | (apply gFie; first | exact ev_fieldAddr (fldT rfl) rfl) | exact ev_assign rfl | (apply gPic; first | exact ev_pickT rfl rfl | exact ev_pickF rfl rfl) | (apply gBin; first | exact (ev_eqi rfl rfl).to hb0 | exact ev_eqi rfl rfl | exact ev_eqs rfl rfl | exact ev_lti rfl rfl | exact ev_add64 rfl rfl (by omega)) | exact ev_notB rfl | (apply gBui; first | (apply ev_build (bldT rfl) rfl; simp [fillP]; rfl)) | (apply gCal; first | exact ev_len_slice (slT rfl) rfl) | (apply gIxA; first | exact ev_indexAddr (slT rfl) (szT rfl) rfl rfl (by omega)) | (apply gSli; first | exact (ev_slice_lAny (slT rfl) (szT rfl) rfl rfl (by omega)).to hsl')))) | ((show Wl _ _ _ _ _ _ _ (⟨_, .call ⟨.value (.func 21), _, _⟩, _, _, _, _⟩ :: _) _ _); refine wl_callS rfl rfl has21 rfl (fun w hs => dirC (R := RR) (first := decide (i = 0)) hW hGR hv1 hlr hltr hpo (by omega) hs) ?_; rintro ⟨qb, qP, qo, qtab, qC⟩ hq; dsimp only at hq ⊢) | ((show Wl _ _ _ _ _ _ _ (⟨_, .call ⟨.value (.func 22), _, _⟩, _, _, _, _⟩ :: _) _ _); refine wl_call0 rfl rfl has22 rfl (fun w hs => cn hs) ?_) | apply Wl.nil | (refine Wl.skip rfl rfl ?_) | (refine wl_storeWhole rfl rfl rfl (szT rfl) rfl (by repeat (first | exact Upd.here | apply Upd.there)) (by rfl) ?_) | ((fail_if_success (apply Wl.chk rfl)); refine Wl.split rfl rfl ?_ ?_ <;> (intro h; try (exfalso; first | contradiction | omega | exact h rfl | exact h ⟨rfl, rfl⟩ | (simp_all; done))))) | (apply gQ; first | (apply Wq.ev rfl rfl; (focus (first | exact ev_move rfl | (apply gLoa; first | exact ev_loadAt (agT rfl) rfl hmo (hgo _ (by omega)) | exact ev_loadAt (agT rfl) rfl hm1 (gk _ (by omega)) | exact ev_loadAt (agT rfl) rfl hm1 (gt _ (by omega)) | exact ev_loadAt (agT rfl) rfl hm1 (ga _ (by omega))) | (apply gFie; first | exact ev_fieldAddr (fldT rfl) rfl) | exact ev_assign rfl | (apply gPic; first | exact ev_pickT rfl rfl | exact ev_pickF rfl rfl) | (apply gBin; first | exact (ev_eqi rfl rfl).to hb0 | exact ev_eqi rfl rfl | exact ev_eqs rfl rfl | exact ev_lti rfl rfl | exact ev_add64 rfl rfl (by omega)) | exact ev_notB rfl | (apply gBui; first | (apply ev_build (bldT rfl) rfl; simp [fillP]; rfl)) | (apply gCal; first | exact ev_len_slice (slT rfl) rfl) | (apply gIxA; first | exact ev_indexAddr (slT rfl) (szT rfl) rfl rfl (by omega)) | (apply gSli; first | exact (ev_slice_lAny (slT rfl) (szT rfl) rfl rfl (by omega)).to hsl')))) | ((show Wq _ _ (Qt _ _ _ _) _ _ _ _ [] _ _); apply Wq.tail)) | ((show W _ _ _ _ _ _ _ _ _); first | apply W.seq | ((show W _ _ _ _ _ _ (.inl (.region 8 _ false) :: .inl (.cond _ _ _) :: _) _ _); refine W.joinB 44 (hk = 4 ∧ ht = [35]) ?_ ?_) | ((show W _ _ _ _ _ _ (.inl (.region 3 _ true) :: _) _ _); refine W.regionT 2 mixed (by kernel_rfl) rfl rfl ?_) | ((show W _ _ _ _ _ _ (.inl (.region 10 _ true) :: _) _ _); refine W.regionT 6 mixed (by kernel_rfl) rfl rfl ?_) | ((show W _ _ _ _ _ _ (.inl (.region 16 _ true) :: _) _ _); refine W.regionT 4 mixed (by kernel_rfl) rfl rfl ?_) | (refine W.rettc rfl rfl rfl (agT rfl) (by repeat (first | exact List.Mem.head _ | apply List.Mem.tail)) (szT rfl) ?_; intro w hs) | apply W.region | apply W.block | apply W.skip | (refine W.exit rfl ?_) | (refine W.cond rfl ?_ ?_ <;> (intro h; try (exfalso; first | contradiction | omega | exact h rfl | exact h ⟨rfl, rfl⟩ | (simp_all; done)))) | (refine W.condB rfl ?_ ?_ <;> (intro h; try (exfalso; first | contradiction | (simp_all; done))))))
      · refine W.meetB rfl ?_ (by repeat (first | exact SubL.nil | refine SubL.cons rfl ?_)) (by repeat (first | exact SubH.nil | apply SubH.keep | apply SubH.drop | exact List.Sublist.refl _))
        rename_i h
        first | exact decide_eq_decide.2 ⟨fun h2 => ⟨h, h2⟩, fun h2 => h2.2⟩ | exact (decide_eq_false fun h2 => h h2.1).symm
      · refine W.meetB rfl ?_ (by repeat (first | exact SubL.nil | refine SubL.cons rfl ?_)) (by repeat (first | exact SubH.nil | apply SubH.keep | apply SubH.drop | exact List.Sublist.refl _))
        rename_i h
        first | exact decide_eq_decide.2 ⟨fun h2 => ⟨h, h2⟩, fun h2 => h2.2⟩ | exact (decide_eq_false fun h2 => h h2.1).symm
      · rw [if_pos (by assumption)] at hrs
        cases hdir : dirS V P (decide (i = 0)) rest with
        | some r =>
          rw [hdir] at hq
          have : qb = true := hq.1
          simp_all
        | none =>
          rw [hdir] at hrs
          dsimp only at hrs
          rw [← hrs]
          exact ret_new hs none ⟨rfl, rfl⟩ rfl SubH.nil
      · rw [if_pos (by assumption)] at hrs
        cases hdir : dirS V P (decide (i = 0)) rest with
        | none =>
          rw [hdir] at hq
          have : qb = false := hq
          simp_all
        | some r =>
          obtain ⟨V', P'⟩ := r
          rw [hdir] at hrs hq
          dsimp only at hrs
          obtain ⟨_, rfl, hq3, hq4⟩ := hq
          have := dirS_len hdir
          exact W.again ⟨i + 1, V', qtab, qC, qP, qo, out, oo, d⟩ ⟨hlt, by rw [← hrs]; simp, hq3, hq4, hoo, hol, by dsimp only at this ⊢; omega⟩ (by dsimp only; omega) (by repeat (first | exact SubL.nil | refine SubL.cons rfl ?_)) (List.Sublist.refl _)
      · rw [if_neg (by assumption)] at hrs
        have hB0 : B = false := by simp_all
        rw [if_pos (by rw [hB, hB0])] at hrs
        exact W.again ⟨i + 1, V, tab, C, P, po, out, oo, d⟩ ⟨hlt, by rw [← hrs]; simp, hW, hpo, hoo, hol, Nat.le_succ_of_le hPi⟩ (by dsimp only; omega) (by repeat (first | exact SubL.nil | refine SubL.cons rfl ?_)) (List.Sublist.refl _)
      · rw [if_neg (by assumption)] at hrs
        have hB0 : B = true := by simp_all
        rw [if_neg (by rw [hB, hB0]; simp)] at hrs
        obtain ⟨b2, off2, c2, arr2, et2, fr2, wr2, he2, hm2, hcc2, hg2⟩ := hrd.cons (by simp)
        cases he2
        obtain ⟨l0, hl0⟩ : ∃ l0, (⟨hk, ht, hx, ha, hn⟩ :: rest : List Tk) = l0 := ⟨_, rfl⟩
        have hl0l : rest.length + 1 = l0.length := by rw [← hl0]; rfl
        rw [hl0] at hrs hg2 hrm hr8
        simp only [hl0l]
        refine W.loop (X := Nat × List Tk × Ow × Int) (fun x => [(0, st s), (3, ptr sp3), (6, ptr mb), (26, ownV L.length (some (ob, ocap, ocur))), (27, .int .i64 (L.length : Nat)), (28, .int .i64 (i : Nat)), (60, .slice (some ⟨b, off, none⟩) l0.length c), (61, .int .i64 (l0.length : Nat)), (62, .int .i64 (x.1 : Nat))])
          (fun x => ⟨sp3, true, row [.int .i64 0, .int .i64 0] 26⟩ :: ⟨mb, true, mrow tb (ownV P.length po) (ownV x.2.1.length x.2.2.1) x.2.2.2⟩ :: ⟨tb, true, mobj tab C⟩ :: ((RR ++ ownH 71 po) ++ ownH 35 x.2.2.1))
          (fun x => x.1 ≤ l0.length ∧ putS V x.2.1 (l0.drop x.1) = putS V out l0 ∧ ownOk x.2.1.length 5 (tksC x.2.1) x.2.2.1 ∧ x.2.1.length ≤ 2048) (fun x => l0.length - x.1) (0, out, oo, d) ⟨Nat.zero_le _, rfl, hoo, hol⟩ (by repeat (first | exact SubL.nil | refine SubL.cons rfl ?_)) (List.Sublist.refl _) ?_
        rintro ⟨k, out2, oo2, d2⟩ ⟨hkl, hput, hoo2, hol2⟩
        dsimp only at hkl hput hoo2 hol2 ⊢
        by_cases hkt : k < l0.length
        · obtain ⟨⟨uk, ut, ux, ua, un⟩, hu⟩ : ∃ u, l0.getD k tk0 = u := ⟨_, rfl⟩
          have hum : (⟨uk, ut, ux, ua, un⟩ : Tk) ∈ l0 := by rw [← hu]; simp [List.getD, hkt]
          have hub := hb _ (hTr _ hrm _ hum)
          dsimp only at hub
          have hgu := hg2 k hkt
          rw [hu] at hgu
          rw [drop_getD tk0 hkt, hu, putS] at hput
          have hm3 : ∀ {a b' c : Ent} {X Y : List Ent}, (⟨b, wr2, .cells arr2 et2 fr2⟩ : Ent) ∈ a :: b' :: c :: ((RR ++ X) ++ Y) := fun {a b' c X Y} => List.Mem.tail _ (List.Mem.tail _ (List.Mem.tail _ (List.mem_append_left _ (List.mem_append_left _ hm2))))
          have hln : un ≤ 10000 := by omega
          obtain ⟨E, hE⟩ : ∃ E, expF V ua un 2050 [] 0 ⟨uk, ut, ux, ua, un⟩ = E := ⟨_, rfl⟩
          have hex : expS V ⟨uk, ut, ux, ua, un⟩ = E.map (·.1) := by unfold expS; rw [hE]
          rw [hex] at hput
          repeat' (first | (apply gL; first | (apply Wl.ev rfl rfl; (focus (first | exact ev_move rfl | (apply gLoa; first | exact ev_loadAggAt (agT rfl) (szT rfl) rfl hm3 (fun i v h => hgu i v h _ (by omega)) rfl | exact ev_load (agT rfl) rfl (by repeat (first | exact List.Mem.head _ | apply List.Mem.tail)) rfl | exact ev_loadWhole (agT rfl) (szT rfl) rfl (by repeat (first | exact List.Mem.head _ | apply List.Mem.tail)) rfl) | (apply gFie; first | exact ev_fieldAddr0 (fldT rfl) rfl) | exact ev_assign rfl | (apply gBin; first | exact ev_lti rfl rfl | exact ev_add64 rfl rfl (by omega)) | exact ev_notB rfl | (apply gBui; first | (apply ev_build (bldT rfl) rfl; simp [fillP]; rfl)) | (apply gIxA; first | exact ev_indexAddr (slT rfl) (szT rfl) rfl rfl (by omega))))) | ((show Wl _ _ _ _ _ _ _ (⟨some 10, .alloc _, _, _, _, _⟩ :: _) _ _); refine wl_alloc rfl rfl (zeroT rfl) ?_; intro t10) | ((show Wl _ _ _ _ _ _ _ (⟨_, .call ⟨.value (.func 23), _, _⟩, _, _, _, _⟩ :: _) _ _); refine wl_callS rfl rfl has23 rfl (fun w hs => putC (t := ⟨uk, ut, ux, ua, un⟩) hln hW hGR hoo2 hol2 hs) ?_; rintro ⟨qb, qx, qd, qc, qo⟩ ⟨hok2, hres⟩; dsimp only at hok2 hres ⊢) | apply Wl.nil | (refine wl_storeWhole rfl rfl rfl (szT rfl) rfl (by repeat (first | exact Upd.here | apply Upd.there)) (by rfl) ?_)) | (apply gQ; first | (apply Wq.ev rfl rfl; (focus (first | exact ev_move rfl | (apply gLoa; first | exact ev_loadAggAt (agT rfl) (szT rfl) rfl hm3 (fun i v h => hgu i v h _ (by omega)) rfl | exact ev_load (agT rfl) rfl (by repeat (first | exact List.Mem.head _ | apply List.Mem.tail)) rfl | exact ev_loadWhole (agT rfl) (szT rfl) rfl (by repeat (first | exact List.Mem.head _ | apply List.Mem.tail)) rfl) | (apply gFie; first | exact ev_fieldAddr0 (fldT rfl) rfl) | exact ev_assign rfl | (apply gBin; first | exact ev_lti rfl rfl | exact ev_add64 rfl rfl (by omega)) | exact ev_notB rfl | (apply gBui; first | (apply ev_build (bldT rfl) rfl; simp [fillP]; rfl)) | (apply gIxA; first | exact ev_indexAddr (slT rfl) (szT rfl) rfl rfl (by omega))))) | ((show Wq _ _ (Qt _ _ _ _) _ _ _ _ [] _ _); apply Wq.tail)) | ((show W _ _ _ _ _ _ _ _ _); first | apply W.seq | ((show W _ _ _ _ _ _ (.inl (.region 3 _ true) :: _) _ _); refine W.regionT 2 mixed (by kernel_rfl) rfl rfl ?_) | ((show W _ _ _ _ _ _ (.inl (.region 10 _ true) :: _) _ _); refine W.regionT 6 mixed (by kernel_rfl) rfl rfl ?_) | ((show W _ _ _ _ _ _ (.inl (.region 16 _ true) :: _) _ _); refine W.regionT 4 mixed (by kernel_rfl) rfl rfl ?_) | (refine W.rettc rfl rfl rfl (agT rfl) (by repeat (first | exact List.Mem.head _ | apply List.Mem.tail)) (szT rfl) ?_; intro w hs) | apply W.region | apply W.block | apply W.blk | apply W.skip | (refine W.cond rfl ?_ ?_ <;> (intro h; try (exfalso; first | contradiction | omega | exact h rfl | exact h ⟨rfl, rfl⟩ | (simp_all; done)))) | (refine W.condB rfl ?_ ?_ <;> (intro h; try (exfalso; first | contradiction | (simp_all; done))))))
          · rw [hE] at hres
            rcases hres with ⟨h1, _⟩ | ⟨_, h1⟩
            · dsimp only at h1
              simp_all
            · have hpi : putS V out l0 = .inr ua := by
                rw [← hput]
                rcases h1 with rfl | ⟨x, d9, rfl, hx9⟩
                · rfl
                · simp only [Option.map_some]
                  rw [if_pos hx9]
              rw [hpi] at hrs
              dsimp only at hrs
              rw [← hrs]
              exact ret_new hs none ⟨rfl, rfl⟩ rfl SubH.nil
          · rw [hE] at hres
            rcases hres with ⟨h1, h2, h3⟩ | ⟨h1, _⟩
            · dsimp only at h1 h2 h3
              rw [h2] at hput
              simp only [Option.map_some] at hput
              rw [if_neg (by omega)] at hput
              exact W.again (k + 1, out2 ++ qx, qo, (qd : Int)) ⟨hkt, hput, hok2, by rw [List.length_append]; exact h3⟩ (by dsimp only; omega) (by repeat (first | exact SubL.nil | refine SubL.cons rfl ?_)) (SubH.drop (List.Sublist.refl _))
            · dsimp only at h1
              simp_all
        · obtain rfl : k = l0.length := by omega
          rw [List.drop_length, putS] at hput
          rw [← hput] at hrs
          dsimp only at hrs
          repeat' (first | (apply gL; first | (apply Wl.ev rfl rfl; (focus (first | exact ev_move rfl | (apply gBin; first | exact ev_lti rfl rfl | exact ev_add64 rfl rfl (by omega))))) | apply Wl.nil) | (apply gQ; first | (apply Wq.ev rfl rfl; (focus (first | exact ev_move rfl | (apply gBin; first | exact ev_lti rfl rfl | exact ev_add64 rfl rfl (by omega)))))) | ((show W _ _ _ _ _ _ _ _ _); first | apply W.seq | apply W.region | apply W.blk | (refine W.exit rfl ?_) | (refine W.cond rfl ?_ ?_ <;> (intro h; try (exfalso; first | contradiction | omega | exact h rfl | exact h ⟨rfl, rfl⟩ | (simp_all; done))))))
          exact W.again ⟨i + 1, V, tab, C, P, po, out2, oo2, d2⟩ ⟨hlt, by rw [← hrs]; simp, hW, hpo, hoo2, hol2, Nat.le_succ_of_le hPi⟩ (by dsimp only; omega) (by repeat (first | exact SubL.nil | refine SubL.cons rfl ?_)) (List.Sublist.refl _)
    · obtain rfl : i = L.length := by omega
      rw [List.drop_length, rowsS] at hrs
      rw [← hrs]
      dsimp only [preR]
      by_cases hP0 : P = []
      · subst hP0
        rw [if_pos rfl]
        repeat' (first | (apply gL; first | (apply Wl.ev rfl rfl; (focus (first | exact ev_move rfl | (apply gLoa; first | exact ev_load (agT rfl) rfl (by repeat (first | exact List.Mem.head _ | apply List.Mem.tail)) rfl) | (apply gFie; first | exact ev_fieldAddr0 (fldT rfl) rfl) | exact ev_assign rfl | (apply gBin; first | exact ev_lti rfl rfl | exact ev_gti rfl rfl) | (apply gBui; first | (apply ev_build (bldT rfl) rfl; simp [fillP]; rfl)) | (apply gCal; first | exact ev_len_own (slT rfl) hpo rfl) | exact ev_nilCheck_ptr rfl))) | apply Wl.nil | (refine wl_storeWhole rfl rfl rfl (szT rfl) rfl (by repeat (first | exact Upd.here | apply Upd.there)) (by rfl) ?_)) | (apply gQ; first | (apply Wq.ev rfl rfl; (focus (first | exact ev_move rfl | (apply gLoa; first | exact ev_load (agT rfl) rfl (by repeat (first | exact List.Mem.head _ | apply List.Mem.tail)) rfl) | (apply gFie; first | exact ev_fieldAddr0 (fldT rfl) rfl) | exact ev_assign rfl | (apply gBin; first | exact ev_lti rfl rfl | exact ev_gti rfl rfl) | (apply gBui; first | (apply ev_build (bldT rfl) rfl; simp [fillP]; rfl)) | (apply gCal; first | exact ev_len_own (slT rfl) hpo rfl) | exact ev_nilCheck_ptr rfl)))) | ((show W _ _ _ _ _ _ _ _ _); first | apply W.seq | (refine W.rettc rfl rfl rfl (agT rfl) (by repeat (first | exact List.Mem.head _ | apply List.Mem.tail)) (szT rfl) ?_; intro w hs) | apply W.region | apply W.skip | (refine W.exit rfl ?_) | (refine W.condF rfl ?_) | (refine W.cond rfl ?_ ?_ <;> (intro h; try (exfalso; first | contradiction | omega | exact h rfl | exact h ⟨rfl, rfl⟩ | (simp_all; done))))))
        all_goals exact ret_new hs oo hoo rfl (by rw [ents_owN]; exact SubH.drop (SubH.drop (SubH.drop (List.sublist_append_right _ _))))
      · rw [if_neg hP0]
        have hP1 : 0 < P.length := List.length_pos_iff.2 hP0
        repeat' (first | (apply gL; first | (apply Wl.ev rfl rfl; (focus (first | exact ev_move rfl | (apply gLoa; first | exact ev_load (agT rfl) rfl (by repeat (first | exact List.Mem.head _ | apply List.Mem.tail)) rfl) | (apply gFie; first | exact ev_fieldAddr0 (fldT rfl) rfl) | exact ev_assign rfl | (apply gBin; first | exact ev_lti rfl rfl | exact ev_gti rfl rfl) | (apply gBui; first | (apply ev_build (bldT rfl) rfl; simp [fillP]; rfl)) | (apply gCal; first | exact ev_len_own (slT rfl) hpo rfl | exact ev_len_string (strT rfl) rfl) | exact ev_nilCheck_ptr rfl))) | apply Wl.nil | (refine wl_storeWhole rfl rfl rfl (szT rfl) rfl (by repeat (first | exact Upd.here | apply Upd.there)) (by rfl) ?_)) | (apply gQ; first | (apply Wq.ev rfl rfl; (focus (first | exact ev_move rfl | (apply gLoa; first | exact ev_load (agT rfl) rfl (by repeat (first | exact List.Mem.head _ | apply List.Mem.tail)) rfl) | (apply gFie; first | exact ev_fieldAddr0 (fldT rfl) rfl) | exact ev_assign rfl | (apply gBin; first | exact ev_lti rfl rfl | exact ev_gti rfl rfl) | (apply gBui; first | (apply ev_build (bldT rfl) rfl; simp [fillP]; rfl)) | (apply gCal; first | exact ev_len_own (slT rfl) hpo rfl | exact ev_len_string (strT rfl) rfl) | exact ev_nilCheck_ptr rfl)))) | ((show W _ _ _ _ _ _ _ _ _); first | apply W.seq | (refine W.rettc rfl rfl rfl (agT rfl) (by repeat (first | exact List.Mem.head _ | apply List.Mem.tail)) (szT rfl) ?_; intro w hs) | apply W.region | (refine W.exit rfl ?_) | (refine W.cond rfl ?_ ?_ <;> (intro h; try (exfalso; first | contradiction | omega | exact h rfl | exact h ⟨rfl, rfl⟩ | (simp_all; done))))))
        all_goals exact ret_new hs none ⟨rfl, rfl⟩ rfl SubH.nil
  · rw [preS_err hR he]
    repeat' (first | (apply gL; first | (apply Wl.ev rfl rfl; (focus (first | exact ev_move rfl | (apply gLoa; first | exact ev_load (agT rfl) rfl (by repeat (first | exact List.Mem.head _ | apply List.Mem.tail)) rfl | exact ev_loadWhole (agT rfl) (szT rfl) rfl (by repeat (first | exact List.Mem.head _ | apply List.Mem.tail)) rfl) | (apply gFie; first | exact ev_fieldAddr0 (fldT rfl) rfl) | exact ev_assign rfl | exact ev_nei rfl rfl | exact ev_extract rfl rfl))) | ((show Wl _ _ _ _ _ _ _ (⟨some 3, .alloc _, _, _, _, _⟩ :: _) _ _); refine wl_alloc rfl rfl (zeroT rfl) ?_; intro sp3) | ((show Wl _ _ _ _ _ _ _ (⟨some 5, .alloc _, _, _, _, _⟩ :: _) _ _); refine wl_alloc rfl rfl (zeroT rfl) ?_; intro sp5) | ((show Wl _ _ _ _ _ _ _ (⟨_, .call ⟨.value (.func 15), _, _⟩, _, _, _, _⟩ :: _) _ _); refine wl_callY rfl rfl has15 rfl (fun w hs => lx w (hG0.sub hs (by repeat (first | exact List.Sublist.refl _ | apply SubH.drop))).1) ?_; intro o1 ho1; simp only [ents_owN, List.cons_append, List.nil_append]) | apply Wl.nil | (refine wl_storeWhole rfl rfl rfl (szT rfl) rfl (by repeat (first | exact Upd.here | apply Upd.there)) (by rfl) ?_)) | (apply gQ; first | (apply Wq.ev rfl rfl; (focus (first | exact ev_move rfl | (apply gLoa; first | exact ev_load (agT rfl) rfl (by repeat (first | exact List.Mem.head _ | apply List.Mem.tail)) rfl | exact ev_loadWhole (agT rfl) (szT rfl) rfl (by repeat (first | exact List.Mem.head _ | apply List.Mem.tail)) rfl) | (apply gFie; first | exact ev_fieldAddr0 (fldT rfl) rfl) | exact ev_assign rfl | exact ev_nei rfl rfl | exact ev_extract rfl rfl))) | ((show Wq _ _ (Qt _ _ _ _) _ _ _ _ [] _ _); apply Wq.tail)) | ((show W _ _ _ _ _ _ _ _ _); first | apply W.seq | ((show W _ _ _ _ _ _ (.inl (.region 3 _ true) :: _) _ _); refine W.regionT 2 mixed (by kernel_rfl) rfl rfl ?_) | ((show W _ _ _ _ _ _ (.inl (.region 10 _ true) :: _) _ _); refine W.regionT 6 mixed (by kernel_rfl) rfl rfl ?_) | ((show W _ _ _ _ _ _ (.inl (.region 16 _ true) :: _) _ _); refine W.regionT 4 mixed (by kernel_rfl) rfl rfl ?_) | (refine W.rettc rfl rfl rfl (agT rfl) (by repeat (first | exact List.Mem.head _ | apply List.Mem.tail)) (szT rfl) ?_; intro w hs) | apply W.region | apply W.scope0 | (refine W.cond rfl ?_ ?_ <;> (intro h; try (exfalso; first | contradiction | omega | exact h rfl | exact h ⟨rfl, rfl⟩ | (simp_all; done))))))
    all_goals first
      | exact ret_new hs none ⟨rfl, rfl⟩ rfl SubH.nil
      | exact absurd h he
end Go.Proofs.YthhfandandfeeaaDoor
