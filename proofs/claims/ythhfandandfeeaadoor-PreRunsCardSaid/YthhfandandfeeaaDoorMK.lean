/- A walk: tokens line by line. No condition. -/
import Derived.Test.YthhfandandfeeaaDoorMA
import Derived.Test.YthhfandandfeeaaDoorS3
namespace Go.PB
theorem TailUp.pre {X : Type} {A H T : List Ent} {T' H' : X → List Ent} (h : TailUp H T T' H') : TailUp (A ++ H) T T' (fun x => A ++ H' x) := by
  obtain ⟨B, rfl, h2⟩ := h
  exact ⟨A ++ B, by simp, fun x => by simp [h2 x]⟩
theorem own_last {n : Nat} {xs : List Value} {v v' : Value} {b cap : Nat} {cur : Array Value} (hn : xs.length = n) (h : ownOk (n + 1) 1 (xs ++ [v]) (some (b, cap, cur))) : ownOk (n + 1) 1 (xs ++ [v']) (some (b, cap, cur.setIfInBounds n v')) := by
  obtain ⟨h1, h2, h3, h4, h5⟩ := h
  dsimp only at h1 h2 h3 h4 h5 ⊢
  refine ⟨h1, h2, by simpa using h3, ?_, by simp [hn]⟩
  dsimp only
  rw [Nat.mul_one] at h4 ⊢
  apply List.ext_getElem?
  intro i
  rw [List.getElem?_take]
  have h4i := congrArg (·[i]?) h4
  simp only [List.getElem?_take] at h4i
  by_cases hi : i < n + 1
  · rw [if_pos hi] at h4i ⊢
    have hs : i < cur.size := by omega
    rw [Array.getElem?_toList] at h4i ⊢
    rw [Array.getElem?_setIfInBounds]
    by_cases he : n = i
    · subst he
      rw [if_pos rfl, if_pos hs, List.getElem?_append_right (by omega), hn]
      simp
    · rw [if_neg he, h4i, List.getElem?_append_left (by omega), List.getElem?_append_left (by omega)]
  · rw [if_neg hi]
    rw [List.getElem?_eq_none]
    simp [hn]
    omega
end Go.PB
namespace Go.Proofs.YthhfandandfeeaaDoor
open Go.PB Go.RowKit
attribute [local irreducible] Go.Calls
theorem snoc_or {α : Type} (l : List α) : l = [] ∨ ∃ Q r, l = Q ++ [r] := by
  by_cases h : l = []
  · exact .inl h
  · exact .inr (snoc_of h)
/-- a slice of tokens from outside, in blocks that are known -/
def RdI (R : List Ent) (v : Value) (l : List Ti) : Prop :=
  (∃ p c, v = .slice p 0 c ∧ l = []) ∨ ∃ b off c arr et fr wr, v = .slice (some ⟨b, off, none⟩) l.length c ∧ (⟨b, wr, .cells arr et fr⟩ : Ent) ∈ R ∧ ∀ (j : Nat) u, (tisC l)[j]? = some u → arr[off + j]? = some u
theorem RdE.toI {R : List Ent} {v : Value} {l : List Tk} (h : RdE R v l) : RdI R v (l.map tiOf) := by
  rcases h with ⟨p, c, h1, rfl⟩ | ⟨b, off, c, arr, et, fr, wr, h1, h2, _, h3⟩
  · exact .inl ⟨p, c, h1, rfl⟩
  · exact .inr ⟨b, off, c, arr, et, fr, wr, by rw [List.length_map]; exact h1, h2, fun j u hj => h3 j u (by rw [← tisC_of]; exact hj)⟩
theorem RdI.cons {R : List Ent} {v : Value} {l : List Ti} (h : RdI R v l) (h0 : 0 < l.length) : ∃ b off c arr et fr wr, v = .slice (some ⟨b, off, none⟩) l.length c ∧ (⟨b, wr, .cells arr et fr⟩ : Ent) ∈ R ∧
    ∀ j, j < l.length → ∀ (f : Nat) u, (tiC (l.getD j ti0))[f]? = some u → ∀ o, o = off + (j * 5 + f) → arr[o]? = some u := by
  rcases h with ⟨p, c, _, rfl⟩ | ⟨b, off, c, arr, et, fr, wr, h1, h2, h4⟩
  · simp at h0
  · exact ⟨b, off, c, arr, et, fr, wr, h1, h2, fun j hj f u hu o ho => by rw [ho]; exact h4 _ _ (tisC_get hj hu)⟩
theorem RdI.len {R : List Ent} {v : Value} {l : List Ti} (h : RdI R v l) : ∃ p c, v = .slice p l.length c := by
  rcases h with ⟨p, c, rfl, rfl⟩ | ⟨b, off, c, arr, et, fr, wr, rfl, _⟩
  · exact ⟨p, c, rfl⟩
  · exact ⟨_, c, rfl⟩
abbrev Zr := List (List Ti × Ow)
def valsZ (Z : Zr) : List Value := Z.map fun p => ownV p.1.length p.2
def blksZ (Z : Zr) : List Ent := Z.flatMap fun p => ownH 35 p.2
def okZ (Z : Zr) (n : Nat) : Prop := ∀ p ∈ Z, ownOk p.1.length 5 (tisC p.1) p.2 ∧ p.1.length ≤ n
theorem valsZ_snoc (Z : Zr) (p : List Ti × Ow) : valsZ (Z ++ [p]) = valsZ Z ++ [ownV p.1.length p.2] := by simp [valsZ]
theorem blksZ_snoc (Z : Zr) (p : List Ti × Ow) : blksZ (Z ++ [p]) = blksZ Z ++ ownH 35 p.2 := by simp [blksZ]
theorem own_oneV (m : Nat) (o : Ow) : (ownV m o).oneCell' = true := by cases o <;> rfl
theorem tisC_snoc (r : List Ti) (u : Ti) : tisC (r ++ [u]) = tisC r ++ tiC u := by simp [tisC]
theorem perm_end (R B : List Ent) (x : Ent) : (x :: (R ++ B)).Perm (R ++ (B ++ [x])) := by
  rw [← List.append_assoc]
  exact (List.perm_append_singleton ..).symm
structure LnX where
  Q : Zr
  r : List Ti
  o : Ow
  b : Nat
  cap : Nat
  cur : Array Value
set_option maxRecDepth 100000 in
set_option maxHeartbeats 8000000 in
theorem lines_ok {v : Value} {l : List Ti} {R : List Ent} {M : List Nat} {w0 w : World} (hv : RdI R v l) (hl : l.length * 48 ≤ 140737488355328) (hst : St M w0 w R) :
    Calls Tryd.prog 13 #[v] w (GivesS (fun q : Zr × Ow => ownV q.1.length q.2) (fun q => q.1.map (·.1) = linesJ l ∧ okZ q.1 l.length ∧ ownOk q.1.length 1 (valsZ q.1) q.2) M w0 (fun q => R ++ (blksZ q.1 ++ ownH 23 q.2))) := by
  obtain ⟨p, c0, rfl⟩ := hv.len
  refine calls_of_W (vs := [.slice p l.length c0]) Tryd.func13 rfl Tryd.ntmps13 (Nat.le_of_ble_eq_true rfl) hst.fromHere ?_
  simp only [argL]
  repeat' (first | (apply gL; first | (apply Wl.ev rfl rfl; (focus (first | exact ev_move rfl | exact ev_assign rfl | (apply gCal; first | exact ev_len_slice (slT rfl) rfl)))) | apply Wl.nil) | (apply gQ; first | (apply Wq.ev rfl rfl; (focus (first | exact ev_move rfl | exact ev_assign rfl | (apply gCal; first | exact ev_len_slice (slT rfl) rfl))))) | ((show W _ _ _ _ _ _ _ _ _); first | apply W.seq | (refine W.loop (X := Nat × Zr × Ow) (fun x => [(0, .slice p l.length c0), (3, ownV x.2.1.length x.2.2), (6, .slice p l.length c0), (7, .int .i64 (l.length : Nat)), (8, .int .i64 (x.1 : Nat))]) (fun x => R ++ (blksZ x.2.1 ++ ownH 23 x.2.2)) (fun x => x.1 ≤ l.length ∧ x.2.1.map (·.1) = linesI l x.1 ∧ okZ x.2.1 x.1 ∧ ownOk x.2.1.length 1 (valsZ x.2.1) x.2.2 ∧ x.2.1.length ≤ x.1) (fun x => l.length - x.1) (0, [], none) ⟨Nat.zero_le _, rfl, by simp [okZ], ⟨rfl, rfl⟩, Nat.le_refl _⟩ (by repeat (first | exact SubL.nil | refine SubL.cons rfl ?_)) (by simp [blksZ, ownH]; exact List.Sublist.refl _) ?_) | apply W.region | apply W.block))
  rintro ⟨j, Z, oo⟩ ⟨hj, hZ, hok, hoo, hZj⟩
  dsimp only at hj hZ hok hoo hZj ⊢
  by_cases hlt : j < l.length
  · obtain ⟨b1, off, c1, arr, et, fr, wr1, he, hm, hg⟩ := hv.cons (by omega)
    cases he
    obtain ⟨⟨uk, ut, ux, ua, un⟩, hu⟩ : ∃ u, l.getD j ti0 = u := ⟨_, rfl⟩
    obtain ⟨⟨pk, pt, px, pa, pn⟩, hpv⟩ : ∃ u, l.getD (j - 1) ti0 = u := ⟨_, rfl⟩
    have hgu := hg j hlt
    rw [hu] at hgu
    have hgp := hg (j - 1) (by omega) 4
    rw [hpv] at hgp
    have hgp := hgp _ rfl
    have hnx : linesI l (j + 1) = if j = 0 ∨ pn ≠ un then linesI l j ++ [[⟨uk, ut, ux, ua, un⟩]] else (linesI l j).dropLast ++ [(linesI l j).getLastD [] ++ [⟨uk, ut, ux, ua, un⟩]] := by
      simp only [linesI, hu, hpv]
    repeat' (first | (apply gL; first | (apply Wl.ev rfl rfl; (focus (first | exact ev_move rfl | (apply gLoa; first | exact ev_loadAggAt (agT rfl) (szT rfl) rfl (by repeat (first | exact List.mem_append_left _ hm | apply List.Mem.tail)) (fun i v h => hgu i v h _ (by omega)) rfl | exact ev_loadAt (agT rfl) rfl (by repeat (first | exact List.mem_append_left _ hm | apply List.Mem.tail)) (hgp _ (by omega)) | exact ev_load (agT rfl) rfl (by repeat (first | exact List.Mem.head _ | apply List.Mem.tail)) rfl) | (apply gFie; first | exact ev_fieldAddr0 (fldT rfl) rfl | exact ev_fieldAddr (fldT rfl) rfl) | exact ev_assign rfl | (apply gPic; first | exact ev_pickT rfl rfl | exact ev_pickF rfl rfl) | (apply gBin; first | exact ev_eqi rfl rfl | exact ev_nei rfl rfl | exact ev_lti rfl rfl | exact ev_sub64 rfl rfl (by omega)) | (apply gIxA; first | exact ev_indexAddr (slT rfl) (szT rfl) rfl rfl (by omega))))) | ((show Wl _ _ _ _ _ _ _ (⟨some 5, .alloc _, _, _, _, _⟩ :: _) _ _); refine wl_alloc rfl rfl (zeroT rfl) ?_; intro t5) | (refine wl_append_own (m := Z.length) (k := 1) (o := oo) (xs := valsZ Z) (news := [.slice none 0 0]) rfl rfl (slT rfl) (szT rfl) (byT rfl) (zeroT rfl) rfl rfl rfl hoo (by repeat (first | exact List.Mem.head _ | apply List.Mem.tail)) rfl (fun j v h => by simpa using h) (by simp [Value.oneCell']) (by omega) (by simp only [maxLen]; omega) (by omega) (by repeat (first | exact TailUp.app | exact TailUp.here | apply TailUp.there | apply TailUp.pre)) ?_; intro o9 ho9) | apply Wl.nil | (refine wl_storeWhole rfl rfl rfl (szT rfl) rfl (by repeat (first | exact Upd.here | apply Upd.there)) (by rfl) ?_) | (apply wl_buildSlice rfl rfl (slT rfl) (szT rfl) (zeroT rfl) rfl (by decide) rfl; (focus (simp [fillP, List.range_succ]; rfl)); intro b)) | (apply gQ; first | (apply Wq.ev rfl rfl; (focus (first | exact ev_move rfl | (apply gLoa; first | exact ev_loadAggAt (agT rfl) (szT rfl) rfl (by repeat (first | exact List.mem_append_left _ hm | apply List.Mem.tail)) (fun i v h => hgu i v h _ (by omega)) rfl | exact ev_loadAt (agT rfl) rfl (by repeat (first | exact List.mem_append_left _ hm | apply List.Mem.tail)) (hgp _ (by omega)) | exact ev_load (agT rfl) rfl (by repeat (first | exact List.Mem.head _ | apply List.Mem.tail)) rfl) | (apply gFie; first | exact ev_fieldAddr0 (fldT rfl) rfl | exact ev_fieldAddr (fldT rfl) rfl) | exact ev_assign rfl | (apply gPic; first | exact ev_pickT rfl rfl | exact ev_pickF rfl rfl) | (apply gBin; first | exact ev_eqi rfl rfl | exact ev_nei rfl rfl | exact ev_lti rfl rfl | exact ev_sub64 rfl rfl (by omega)) | (apply gIxA; first | exact ev_indexAddr (slT rfl) (szT rfl) rfl rfl (by omega))))) | apply Wq.nil | (refine Wq.skip rfl rfl ?_) | ((fail_if_success (apply Wq.chk rfl)); refine Wq.split rfl rfl ?_ ?_ <;> (intro h; try (exfalso; first | contradiction | omega | exact h rfl | exact h ⟨rfl, rfl⟩ | (simp_all; done))))) | ((show W _ _ _ _ _ _ _ _ _); first | apply W.seq | ((show W _ _ _ _ _ _ (.inl (.region 5 _ true) :: .inl (.cond _ _ _) :: _) _ _); refine W.joinB 25 (j = 0 ∨ pn ≠ un) ?_ ?_) | ((show W _ _ _ _ _ _ (.inl (.cond (.tmp 25) _ _) :: .inl (.region 7 _ _) :: _) _ _); refine W.join (X := LnX) (fun x => [(0, .slice (some ⟨b1, off, none⟩) l.length c0), (3, .slice (some ⟨x.b, 0, none⟩) (x.Q.length + 1) x.cap), (5, .pointer (some ⟨t5, 0, none⟩)), (6, .slice (some ⟨b1, off, none⟩) l.length c0), (7, .int .i64 (l.length : Nat)), (8, .int .i64 (j : Nat))]) (fun x => ⟨t5, true, row (tiC ⟨uk, ut, ux, ua, un⟩) 35⟩ :: ⟨x.b, true, .cells x.cur 23 (0, 0)⟩ :: (R ++ (blksZ x.Q ++ ownH 35 x.o))) (fun x => x.Q.map (·.1) ++ [x.r ++ [⟨uk, ut, ux, ua, un⟩]] = linesI l (j + 1) ∧ okZ x.Q j ∧ ownOk x.r.length 5 (tisC x.r) x.o ∧ x.r.length ≤ j ∧ ownOk (x.Q.length + 1) 1 (valsZ x.Q ++ [ownV x.r.length x.o]) (some (x.b, x.cap, x.cur)) ∧ x.Q.length ≤ j) ?_ ?_) | (refine W.regionQ mixed (by kernel_rfl) ?_) | apply W.region | apply W.block | apply W.skip | (refine W.cond rfl ?_ ?_ <;> (intro h; try (exfalso; first | contradiction | omega | exact h rfl | exact h ⟨rfl, rfl⟩ | (simp_all; done))))))
    · exact W.meetB rfl (decide_eq_true (.inl (by omega))).symm (by repeat (first | exact SubL.nil | refine SubL.cons rfl ?_)) (by repeat (first | exact SubH.nil | apply SubH.keep | apply SubH.drop | exact List.Sublist.refl _))
    · exact W.meetB rfl (decide_eq_decide.2 ⟨fun h => .inr (fun e => h e.symm), fun h2 => by
        rcases h2 with h2 | h2
        · omega
        · exact fun e => h2 e.symm⟩) (by repeat (first | exact SubL.nil | refine SubL.cons rfl ?_)) (by repeat (first | exact SubH.nil | apply SubH.keep | apply SubH.drop | exact List.Sublist.refl _))
    · have hnx2 := hnx
      rw [if_pos (by assumption)] at hnx2
      obtain ⟨ob, ocap, ocur, rfl, q1, q2, q3⟩ := own_some ho9 (by omega)
      refine W.reH (H' := ⟨t5, true, row (tiC ⟨uk, ut, ux, ua, un⟩) 35⟩ :: ⟨ob, true, .cells ocur 23 (0, 0)⟩ :: (R ++ (blksZ Z ++ ownH 35 none))) (fun w hs => ((hs.sub (SubH.drop (List.Sublist.refl _))).perm (List.Perm.cons _ (by rw [ownH_some, ownH_none, List.append_nil, ← List.append_assoc]; exact List.perm_append_singleton ..)))) ?_
      exact W.meet ⟨Z, [], none, ob, ocap, ocur⟩ ⟨by rw [hnx2, hZ]; rfl, hok, ⟨rfl, rfl⟩, Nat.zero_le _, ho9, hZj⟩ (by repeat (first | exact SubL.nil | refine SubL.cons rfl ?_)) (List.Sublist.refl _)
    · have hnx2 := hnx
      rw [if_neg (by assumption)] at hnx2
      have hj0 : 0 < j := by omega
      rcases snoc_or Z with rfl | ⟨Q, ⟨r, o⟩, rfl⟩
      · exfalso
        have h9 := (linesI_ok l j hj).all
        rw [← hZ] at h9
        have := congrArg List.length h9
        simp at this
        omega
      · obtain ⟨ob, ocap, ocur, rfl, q1, q2, q3⟩ := own_some hoo (by simp)
        have hr := hok (r, o) (by simp)
        rw [← hZ] at hnx2
        simp only [List.map_append, List.map_cons, List.map_nil, List.dropLast_concat, List.getLastD_concat] at hnx2
        simp only [List.length_append, List.length_cons, List.length_nil, Nat.zero_add, valsZ_snoc] at hoo hZj ⊢
        refine W.reH (H' := ⟨t5, true, row (tiC ⟨uk, ut, ux, ua, un⟩) 35⟩ :: ⟨ob, true, .cells ocur 23 (0, 0)⟩ :: (R ++ (blksZ Q ++ ownH 35 o))) (fun w hs => hs.perm (List.Perm.cons _ (by rw [ownH_some, blksZ_snoc, ← List.append_assoc]; exact List.perm_append_singleton ..))) ?_
        exact W.meet ⟨Q, r, o, ob, ocap, ocur⟩ ⟨hnx2.symm, fun p hp => hok p (by simp [hp]), hr.1, hr.2, hoo, Nat.le_of_succ_le hZj⟩ (by repeat (first | exact SubL.nil | refine SubL.cons rfl ?_)) (List.Sublist.refl _)
    · rintro ⟨Q, r, o, ob, ocap, ocur⟩ ⟨h1, h2, h3, h4, h5, h6⟩
      dsimp only at h1 h2 h3 h4 h5 h6 ⊢
      simp only [tiC]
      have hlq : (valsZ Q).length = Q.length := by simp [valsZ]
      have hcap : Q.length + 1 ≤ ocap := h5.1
      have hsz : ocur.size = ocap * 1 := h5.2.2.1
      have hgl : ocur[Q.length]? = some (ownV r.length o) := own_get h5 (by rw [List.getElem?_append_right (by omega), hlq]; simp)
      have hidx : Value.pointer (some ⟨ob, 0 + (((Q.length + 1 : Nat) : Int) - 1).toNat * 1, none⟩) = .pointer (some ⟨ob, Q.length, none⟩) := by
        rw [show (((Q.length + 1 : Nat) : Int) - 1).toNat = Q.length by omega, Nat.zero_add, Nat.mul_one]
      repeat' (first | (apply gL; first | (apply Wl.ev rfl rfl; (focus (first | exact ev_move rfl | (apply gLoa; first | exact ev_loadAt (agT rfl) rfl (by repeat (first | exact List.Mem.head _ | apply List.Mem.tail)) hgl | exact ev_loadWhole (agT rfl) (szT rfl) rfl (by repeat (first | exact List.Mem.head _ | apply List.Mem.tail)) rfl) | (apply gBin; first | exact ev_add64 rfl rfl (by omega) | exact ev_sub64 rfl rfl (by omega)) | (apply gCal; first | exact ev_len_slice (slT rfl) rfl) | (apply gIxA; first | exact (ev_indexAddr (slT rfl) (szT rfl) rfl rfl (by omega)).to hidx)))) | (refine wl_append_own (m := r.length) (k := 1) (o := o) (xs := tisC r) (news := [.int .i64 uk, st ut, .int .i32 ux, .int .i64 ua, .int .i64 un]) rfl rfl (slT rfl) (szT rfl) (byT rfl) (zeroT rfl) rfl rfl rfl h3 (by repeat (first | exact List.Mem.head _ | apply List.Mem.tail)) rfl (fun j v h => by simpa using h) (by simp [Value.oneCell']) (by omega) (by simp only [maxLen]; omega) (by omega) (by repeat (first | exact TailUp.app | exact TailUp.here | apply TailUp.there | apply TailUp.pre)) ?_; intro o9 ho9) | (refine wl_storeCell rfl rfl rfl (own_oneV _ _) (szT rfl) (by repeat (first | exact Upd.here | apply Upd.there)) (by omega) (by omega) ?_) | apply Wl.nil | (apply wl_buildSlice rfl rfl (slT rfl) (szT rfl) (zeroT rfl) rfl (by decide) rfl; (focus (simp [fillP, List.range_succ]; rfl)); intro b)) | (apply gQ; first | (apply Wq.ev rfl rfl; (focus (first | exact ev_move rfl | (apply gLoa; first | exact ev_loadAt (agT rfl) rfl (by repeat (first | exact List.Mem.head _ | apply List.Mem.tail)) hgl | exact ev_loadWhole (agT rfl) (szT rfl) rfl (by repeat (first | exact List.Mem.head _ | apply List.Mem.tail)) rfl) | (apply gBin; first | exact ev_add64 rfl rfl (by omega) | exact ev_sub64 rfl rfl (by omega)) | (apply gCal; first | exact ev_len_slice (slT rfl) rfl) | (apply gIxA; first | exact (ev_indexAddr (slT rfl) (szT rfl) rfl rfl (by omega)).to hidx))))) | ((show W _ _ _ _ _ _ _ _ _); first | ((show W _ _ _ _ _ _ (.inl (.region 7 _ true) :: _) _ _); refine W.regionD mixed (SubH.keep SubH.nil) ?_) | apply W.region | apply W.blk) | ((show Wd _ _ _ _ _ _ _ _ _ _ _ _ _); first | ((refine Wd.all (by rfl) (by decide +kernel) ?_)) | (refine Wd.done (by decide +kernel) ?_) | (refine Wd.not (by decide +kernel) ?_) | (refine Wd.skip (by kernel_rfl) rfl (by kernel_rfl) (by decide +kernel) rfl rfl (by repeat (first | exact SubH.nil | apply SubH.keep | apply SubH.drop | exact List.Sublist.refl _)) ?_) | (refine Wd.take (by kernel_rfl) rfl (by kernel_rfl) (by decide +kernel) rfl rfl (by first | exact ev_move rfl | (apply gLoa; first | exact ev_loadAt (agT rfl) rfl (by repeat (first | exact List.Mem.head _ | apply List.Mem.tail)) hgl | exact ev_loadWhole (agT rfl) (szT rfl) rfl (by repeat (first | exact List.Mem.head _ | apply List.Mem.tail)) rfl) | (apply gBin; first | exact ev_add64 rfl rfl (by omega) | exact ev_sub64 rfl rfl (by omega)) | (apply gCal; first | exact ev_len_slice (slT rfl) rfl) | (apply gIxA; first | exact (ev_indexAddr (slT rfl) (szT rfl) rfl rfl (by omega)).to hidx)) (by repeat (first | exact SubH.nil | apply SubH.keep | apply SubH.drop | exact List.Sublist.refl _)) ?_) | (refine Wd.split (by kernel_rfl) rfl rfl rfl ?_ ?_ <;> (intro h; try (exfalso; first | contradiction | omega | exact h rfl | exact h ⟨rfl, rfl⟩ | (simp_all; done)))) | (refine Wd.splitB (by kernel_rfl) rfl rfl rfl ?_ ?_ <;> (intro h; try (exfalso; first | contradiction | omega | exact h rfl | exact h ⟨rfl, rfl⟩ | (simp_all; done)))) | apply Wd.next) | apply AllO.nil | apply AllO.cons | (refine Or.inl (by decide +kernel)) | ((show _ ∨ Wl _ _ _ _ _ _ _ _ _ _); apply Or.inr) | (refine Wl.nilD (by repeat (first | exact SubH.nil | apply SubH.keep | apply SubH.drop | exact List.Sublist.refl _)) ?_))
      all_goals (
        have hql : List.length (Q ++ [(r ++ [(⟨uk, ut, ux, ua, un⟩ : Ti)], o9)]) = Q.length + 1 := by simp
        refine W.reH (H' := R ++ (blksZ (Q ++ [(r ++ [(⟨uk, ut, ux, ua, un⟩ : Ti)], o9)]) ++ ownH 23 (some (ob, ocap, ocur.setIfInBounds Q.length (ownV (r.length + 1) o9))))) (fun w hs => ((hs.sub (SubH.drop (SubH.drop (List.Sublist.refl _)))).perm (by rw [ownH_some, blksZ_snoc]; exact perm_end _ _ _))) ?_
        exact W.again (j + 1, (Q ++ [(r ++ [(⟨uk, ut, ux, ua, un⟩ : Ti)], o9)] : Zr), some (ob, ocap, ocur.setIfInBounds Q.length (ownV (r.length + 1) o9))) ⟨hlt, by rw [← h1]; simp, fun p hp => by
          rcases List.mem_append.1 hp with hp | hp
          · exact ⟨(h2 p hp).1, Nat.le_succ_of_le (h2 p hp).2⟩
          · rw [List.mem_singleton] at hp
            subst hp
            exact ⟨by rw [tisC_snoc, List.length_append]; exact ho9, by simp; omega⟩, by
            have := own_last hlq h5 (v' := ownV (r.length + 1) o9)
            rw [hql, valsZ_snoc, List.length_append]; exact this, by rw [hql]; omega⟩ (by dsimp only; omega) (by dsimp only; rw [hql]; exact (by repeat (first | exact SubL.nil | refine SubL.cons rfl ?_))) (by dsimp only; exact List.Sublist.refl _))
  · obtain rfl : j = l.length := by omega
    repeat' (first | (apply gL; first | (apply Wl.ev rfl rfl; (focus (first | exact ev_move rfl | exact ev_assign rfl | exact ev_lti rfl rfl))) | apply Wl.nil) | (apply gQ; first | (apply Wq.ev rfl rfl; (focus (first | exact ev_move rfl | exact ev_assign rfl | exact ev_lti rfl rfl)))) | ((show W _ _ _ _ _ _ _ _ _); first | apply W.seq | apply W.region | (refine W.exit rfl ?_) | (refine W.cond rfl ?_ ?_ <;> (intro h; try (exfalso; first | contradiction | omega | exact h rfl | exact h ⟨rfl, rfl⟩ | (simp_all; done)))) | (refine W.ret1 rfl rfl ?_; intro w hs)))
    all_goals exact GivesS.of hst hs (Z, oo) ⟨hZ, hok, hoo⟩ rfl (List.Sublist.refl _)
end Go.Proofs.YthhfandandfeeaaDoor
