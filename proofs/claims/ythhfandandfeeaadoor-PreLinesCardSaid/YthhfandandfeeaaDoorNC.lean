/- A walk of the law PreLines. No condition but the listed table's values. -/
import Derived.Test.YthhfandandfeeaaDoorNA
namespace Go.PB
open Go.RowKit
section
variable {P : Program} {ops : Array Oper} {Q : Exit → Act → World → Prop} {M : List Nat} {w0 : World} {n : Nat} {D : List Deferred} {L : List (Nat × Value)} {H : List Ent} {rest : List Oper}
  {d : Tmp} {oty t : TypeId} {pos : String} {after : Array Edge} {g : Option (Nat × Bool)}
/-- a slice of nothing built: its block stands behind the others -/
theorem wl_buildSlice0 {e : TypeId} {sz : Nat} {zl : List Value} (hg : gdv ops L g = some true) (hd : Nat.blt d n = true) (ht : Sl P t e) (hs : Sz P e sz) (hz : Zero P e zl) (hzl : zl.length = sz)
    (h : ∀ b, Wl P ops Q M w0 n D rest ((d, .slice (some ⟨b, 0, none⟩) 0 0) :: L) (H ++ [⟨b, true, .cells #[] e (0, 0)⟩])) : Wl P ops Q M w0 n D (⟨some d, .buildSlice t 0 #[], oty, pos, after, g⟩ :: rest) L H :=
  wl_buildSlice (len := 0) (ps := []) (lv := []) hg hd ht hs hz hzl (by simp) rfl rfl fun b => by
    have := h b
    unfold Wl at this ⊢
    exact fun a w hf hs => this a w hf (hs.perm (List.perm_append_singleton _ _).symm)
end
end Go.PB
namespace Go.Proofs.YthhfandandfeeaaDoor
open Go.PB Go.RowKit
attribute [local irreducible] Go.Calls
/-- a slice of tokens that a function may read -/
def TiAt (w : World) (v : Value) (l : List Ti) : Prop :=
  (∃ p c, v = .slice p 0 c ∧ l = []) ∨ ∃ b off c arr et fr, v = .slice (some ⟨b, off, none⟩) l.length c ∧ w.heap[b]? = some (.cells arr et fr) ∧ ∀ (j : Nat) u, (tisC l)[j]? = some u → arr[off + j]? = some u
theorem TiAt.start {w : World} {v : Value} {l : List Ti} (h : TiAt w v l) : ∃ R, St [] w w R ∧ RdI R v l := by
  rcases h with h | ⟨b, off, c, arr, et, fr, h1, h2, h3⟩
  · exact ⟨[], St.nil w [], .inl h⟩
  · exact ⟨_, St.read h2 [], .inr ⟨b, off, c, arr, et, fr, false, h1, List.Mem.head _, h3⟩⟩
theorem RdI.own {H : List Ent} {l : List Ti} {o : Ow} (ho : ownOk l.length 5 (tisC l) o) (hm : ∀ p ∈ ownH 35 o, p ∈ H) : RdI H (ownV l.length o) l := by
  cases o with
  | none =>
    have : l = [] := List.eq_nil_of_length_eq_zero ho.1
    exact .inl ⟨none, 0, by rw [this]; rfl, this⟩
  | some o =>
    obtain ⟨b, cap, cur⟩ := o
    refine .inr ⟨b, 0, cap, cur, 35, (0, 0), true, rfl, hm _ (List.Mem.head _), fun j u h => ?_⟩
    rw [Nat.zero_add]
    exact own_get ho h
theorem rowsI_at {Z : Zr} {L : List (List Ti)} {oz : Ow} {n i : Nat} (hZ : Z.map (·.1) = L) (hok : okZ Z n) (hoz : ownOk Z.length 1 (valsZ Z) oz) (hi : i < L.length) :
    ∃ ob ocap ocur o, oz = some (ob, ocap, ocur) ∧ ocur[i]? = some (ownV (L.getD i []).length o) ∧ RdI (blksZ Z) (ownV (L.getD i []).length o) (L.getD i []) := by
  have hlen : Z.length = L.length := by rw [← hZ]; simp
  obtain ⟨ob, ocap, ocur, rfl, q1, q2, q3⟩ := own_some hoz (by omega)
  obtain ⟨⟨r, o⟩, hro⟩ : ∃ p, Z[i]? = some p := by
    rw [List.getElem?_eq_getElem (by omega)]
    exact ⟨_, rfl⟩
  have hr : r = L.getD i [] := by
    have := congrArg (·[i]?) hZ
    simp only [List.getElem?_map, hro, Option.map_some] at this
    rw [List.getElem?_eq_getElem hi] at this
    simp only [Option.some.injEq] at this
    rw [this]
    simp [List.getD, hi]
  have hmem := List.mem_of_getElem? hro
  have h1 := (hok _ hmem).1
  dsimp only at h1
  rw [hr] at h1
  refine ⟨ob, ocap, ocur, o, rfl, q3 i _ ?_, RdI.own h1 fun p hp => List.mem_flatMap.2 ⟨_, hmem, hp⟩⟩
  unfold valsZ
  rw [List.getElem?_map, hro, Option.map_some, hr]
theorem flat_snoc {L : List (List Ti)} {i : Nat} (hi : i < L.length) : (L.take (i + 1)).flatten = (L.take i).flatten ++ L.getD i [] := by
  rw [List.take_succ_eq_append_getElem hi, List.flatten_append]
  simp [List.getD, hi]
theorem tisC_app (a b : List Ti) : tisC (a ++ b) = tisC a ++ tisC b := List.flatMap_append ..
theorem tisC_len (l : List Ti) : (tisC l).length = l.length * 5 := flat_len tiC 5 (fun _ => rfl) l
theorem tisC_one (l : List Ti) : ∀ u ∈ tisC l, u.oneCell' = true := by
  intro u hu
  obtain ⟨t, _, ht⟩ := List.mem_flatMap.1 hu
  simp only [tiC, List.mem_cons, List.not_mem_nil, or_false] at ht
  rcases ht with rfl | rfl | rfl | rfl | rfl <;> rfl
set_option maxRecDepth 100000 in
set_option maxHeartbeats 8000000 in
theorem linesLaw_ok (v : Value) (l : List Ti) (hl : l.length * 48 ≤ 140737488355328) (w : World) (hv : TiAt w v l) (hm : Mx w) (hp : Pows w) : Calls Tryd.prog 4 #[v] w (Give (.bool true) w) := by
  obtain ⟨R, hst, hR⟩ := hv.start
  obtain ⟨p, c0, hve⟩ := hR.len
  refine give_of_W (vs := [v]) Tryd.func4 rfl Tryd.ntmps4 (Nat.le_of_ble_eq_true rfl) hst ?_
  simp only [argL]
  have hle : l.length ≤ 9223372036854775807 := by omega
  have copied : ∀ {b : Nat}, ownOk 0 5 [] (some (b, 0, #[])) := fun {b} => ⟨Nat.le_refl _, by simp only [maxLen]; omega, rfl, rfl, rfl⟩
  subst hve
  repeat' (first | ((show Wl _ _ _ _ _ _ _ _ _ _); first | (apply Wl.ev rfl rfl; (focus (first | ((show Ev _ _ _ _ _ _ _ (.move _) _ _); first | exact ev_move rfl) | ((show Ev _ _ _ _ _ _ _ (.assign _) _ _); first | exact ev_assign rfl) | ((show Ev _ _ _ _ _ _ _ (.unOp _ _ _) _ _); first | exact ev_notT rfl)))) | ((show Wl _ _ _ _ _ _ _ (⟨_, .call ⟨.value (.func 9), _, _⟩, _, _, _, _⟩ :: _) _ _); refine wl_call0 rfl rfl has9 rfl (fun w hs => wakes_ok w (hm.st hs (by simp)) (hp.st hs)) ?_) | ((show Wl _ _ _ _ _ _ _ (⟨_, .buildSlice _ 0 _, _, _, _, _⟩ :: _) _ _); refine wl_buildSlice0 rfl rfl (slT rfl) (szT rfl) (zeroT rfl) rfl ?_; intro b1) | apply Wl.nil) | ((show Wq _ _ _ _ _ _ _ _ _ _); first | (apply Wq.ev rfl rfl; (focus (first | ((show Ev _ _ _ _ _ _ _ (.move _) _ _); first | exact ev_move rfl) | ((show Ev _ _ _ _ _ _ _ (.assign _) _ _); first | exact ev_assign rfl) | ((show Ev _ _ _ _ _ _ _ (.unOp _ _ _) _ _); first | exact ev_notT rfl))))) | ((show W _ _ _ _ _ _ _ _ _); first | apply W.seq | ((show W _ _ _ _ _ _ (.inl (.region 3 _ false) :: .inl _ :: _) _ _); refine W.join (X := Ow × Zr × Ow) (fun x => [(0, .slice p l.length c0), (3, ownV x.2.1.length x.2.2)]) (fun x => (R ++ ownH 35 x.1) ++ (blksZ x.2.1 ++ ownH 23 x.2.2)) (fun x => x.2.1.map (·.1) = linesJ l ∧ okZ x.2.1 l.length ∧ ownOk x.2.1.length 1 (valsZ x.2.1) x.2.2) ?_ ?_) | apply W.region | apply W.skip | (refine W.condF rfl ?_)))
  · rcases Nat.eq_zero_or_pos l.length with h0 | h0
    · obtain rfl : l = [] := List.eq_nil_of_length_eq_zero h0
      simp only [List.length_nil]
      have ho1 : ownOk ([] : List Ti).length 5 (tisC []) (some (b1, 0, #[])) := copied
      repeat' (first | ((show Wl _ _ _ _ _ _ _ _ _ _); first | (apply Wl.ev rfl rfl; (focus (first | ((show Ev _ _ _ _ _ _ _ (.assign _) _ _); first | exact ev_assign rfl) | ((show Ev _ _ _ _ _ _ _ (.call _) _ _); first | exact ev_append_none (slT rfl) (szT rfl) rfl rfl (by omega))))) | ((show Wl _ _ _ _ _ _ _ (⟨_, .call ⟨.value (.func 13), _, _⟩, _, _, _, _⟩ :: _) _ _); refine wl_callS rfl rfl has13 rfl (fun w hs => lines_ok (RdI.own ho1 (fun p hp => List.mem_append_right _ hp)) (by first | omega | simp) hs) ?_; rintro ⟨Z, oz⟩ ⟨hZ, hZok, hoz⟩; dsimp only at hZ hZok hoz ⊢) | apply Wl.nil) | ((show Wq _ _ _ _ _ _ _ _ _ _); first | (apply Wq.ev rfl rfl; (focus (first | ((show Ev _ _ _ _ _ _ _ (.assign _) _ _); first | exact ev_assign rfl) | ((show Ev _ _ _ _ _ _ _ (.call _) _ _); first | exact ev_append_none (slT rfl) (szT rfl) rfl rfl (by omega)))))))
      exact W.meet (some (b1, 0, #[]), Z, oz) ⟨hZ, hZok, hoz⟩ (by repeat (first | exact SubL.nil | refine SubL.cons rfl ?_)) (List.Sublist.refl _)
    · obtain ⟨b0, off, c1, arr, et, fr, wr, he, hm0, hg0⟩ : ∃ b off c arr et fr wr, Value.slice p l.length c0 = .slice (some ⟨b, off, none⟩) l.length c ∧ (⟨b, wr, .cells arr et fr⟩ : Ent) ∈ R ∧ ∀ (j : Nat) u, (tisC l)[j]? = some u → arr[off + j]? = some u := by
        rcases hR with ⟨p, c, _, h⟩ | h
        · rw [h] at h0
          simp at h0
        · exact h
      cases he
      repeat' (first | ((show Wl _ _ _ _ _ _ _ _ _ _); first | (apply Wl.ev rfl rfl; (focus (first | ((show Ev _ _ _ _ _ _ _ (.assign _) _ _); first | exact ev_assign rfl)))) | (refine wl_append_own (m := 0) (k := l.length) (o := some (b1, 0, #[])) (xs := []) (news := tisC l) rfl rfl (slT rfl) (szT rfl) (byT rfl) (zeroT rfl) rfl rfl rfl copied (List.mem_append_left _ hm0) (tisC_len l) hg0 (tisC_one l) h0 (by simp only [maxLen]; omega) (by omega) (by repeat (first | exact TailUp.app | exact TailUp.here | apply TailUp.there | apply TailUp.pre)) ?_; intro o1 ho1; simp only [Nat.zero_add, List.nil_append] at ho1 ⊢) | ((show Wl _ _ _ _ _ _ _ (⟨_, .call ⟨.value (.func 13), _, _⟩, _, _, _, _⟩ :: _) _ _); refine wl_callS rfl rfl has13 rfl (fun w hs => lines_ok (RdI.own ho1 (fun p hp => List.mem_append_right _ hp)) (by first | omega | simp) hs) ?_; rintro ⟨Z, oz⟩ ⟨hZ, hZok, hoz⟩; dsimp only at hZ hZok hoz ⊢) | apply Wl.nil) | ((show Wq _ _ _ _ _ _ _ _ _ _); first | (apply Wq.ev rfl rfl; (focus (first | ((show Ev _ _ _ _ _ _ _ (.assign _) _ _); first | exact ev_assign rfl))))))
      exact W.meet (o1, Z, oz) ⟨hZ, hZok, hoz⟩ (by repeat (first | exact SubL.nil | refine SubL.cons rfl ?_)) (List.Sublist.refl _)
  · rintro ⟨o1, Z, oz⟩ ⟨hZ, hZok, hoz⟩
    dsimp only at hZ hZok hoz ⊢
    obtain ⟨B0, hB0⟩ : ∃ B0, (R ++ ownH 35 o1) ++ (blksZ Z ++ ownH 23 oz) = B0 := ⟨_, rfl⟩
    rw [hB0]
    have hJ := linesI_ok l l.length (Nat.le_refl _)
    rw [List.take_length] at hJ
    obtain ⟨L, hL⟩ : ∃ L, linesJ l = L := ⟨_, rfl⟩
    rw [show linesI l l.length = L from hL] at hJ
    rw [hL] at hZ
    have hZl : List.length Z = L.length := by rw [← hZ]; simp
    rw [hZl]
    have hLl : L.length ≤ l.length := by
      rw [← hJ.all]
      have : ∀ L : List (List Ti), (∀ r ∈ L, r ≠ []) → L.length ≤ L.flatten.length := fun L => by
        induction L with
        | nil => simp
        | cons r L ih =>
          intro h
          have h1 := ih fun r hr => h r (List.Mem.tail _ hr)
          have h2 : 0 < r.length := List.length_pos_iff.2 (h r (List.Mem.head _))
          simp only [List.flatten_cons, List.length_append, List.length_cons]
          omega
      exact this L fun r hr => (hJ.row r hr).1
    have hRB : RdI B0 (.slice p l.length c0) l := hR.mono fun q hq => by rw [← hB0]; exact List.mem_append_left _ (List.mem_append_left _ hq)
    have hfl : ∀ i, (L.take i).flatten.length ≤ l.length := fun i => by
      have h9 := congrArg List.length hJ.all
      conv at h9 => lhs; rw [← List.take_append_drop i L]
      rw [List.flatten_append, List.length_append] at h9
      omega
    have hoz' := hoz
    rw [hZl] at hoz'
    have hrow : ∀ i, i < L.length → ∃ ob ocap ocur o, oz = some (ob, ocap, ocur) ∧ (⟨ob, true, .cells ocur 23 (0, 0)⟩ : Ent) ∈ B0 ∧ ocur[i]? = some (ownV (L.getD i []).length o) ∧ RdI B0 (ownV (L.getD i []).length o) (L.getD i []) := fun i hi => by
      obtain ⟨ob, ocap, ocur, o, h1, h2, h3⟩ := rowsI_at hZ hZok hoz hi
      subst h1
      refine ⟨ob, ocap, ocur, o, rfl, ?_, h2, h3.mono fun p hp => ?_⟩
      · rw [← hB0, ownH_some]
        exact List.mem_append_right _ (List.mem_append_right _ (List.Mem.head _))
      · rw [← hB0]
        exact List.mem_append_right _ (List.mem_append_left _ hp)
    repeat' (first | ((show Wl _ _ _ _ _ _ _ _ _ _); first | (apply Wl.ev rfl rfl; (focus (first | ((show Ev _ _ _ _ _ _ _ (.move _) _ _); first | exact ev_move rfl) | ((show Ev _ _ _ _ _ _ _ (.assign _) _ _); first | exact ev_assign rfl) | ((show Ev _ _ _ _ _ _ _ (.call _) _ _); first | exact ev_len_own (slT rfl) hoz' rfl)))) | apply Wl.nil) | ((show Wq _ _ _ _ _ _ _ _ _ _); first | (apply Wq.ev rfl rfl; (focus (first | ((show Ev _ _ _ _ _ _ _ (.move _) _ _); first | exact ev_move rfl) | ((show Ev _ _ _ _ _ _ _ (.assign _) _ _); first | exact ev_assign rfl) | ((show Ev _ _ _ _ _ _ _ (.call _) _ _); first | exact ev_len_own (slT rfl) hoz' rfl))))) | ((show W _ _ _ _ _ _ _ _ _); first | apply W.seq | (refine W.loop (X := Nat × Ow) (fun x => [(0, .slice p l.length c0), (3, ownV L.length oz), (4, ownV (L.take x.1).flatten.length x.2), (15, ownV L.length oz), (16, .int .i64 (L.length : Nat)), (17, .int .i64 (x.1 : Nat))]) (fun x => B0 ++ ownH 35 x.2) (fun x => x.1 ≤ L.length ∧ ownOk (L.take x.1).flatten.length 5 (tisC (L.take x.1).flatten) x.2) (fun x => L.length - x.1) (0, none) ⟨Nat.zero_le _, ⟨rfl, rfl⟩⟩ (by repeat (first | exact SubL.nil | refine SubL.cons rfl ?_)) (by simp [ownH]; exact List.Sublist.refl _) ?_) | apply W.region | apply W.block))
    rintro ⟨i, oa⟩ ⟨hi, hoa⟩
    dsimp only at hi hoa ⊢
    by_cases hlt : i < L.length
    · obtain ⟨ob, ocap, ocur, ro, rfl, hob, hov, hrd⟩ := hrow i hlt
      obtain ⟨r, hr⟩ : ∃ r, L.getD i [] = r := ⟨_, rfl⟩
      rw [hr] at hov hrd
      have hrm : r ∈ L := by rw [← hr]; simp [List.getD, hlt]
      obtain ⟨hr0, hrn⟩ := hJ.row r hrm
      have hrp : 0 < r.length := List.length_pos_iff.2 hr0
      have hfs := flat_snoc hlt
      rw [hr] at hfs
      have hfb := hfl (i + 1)
      rw [hfs, List.length_append] at hfb
      obtain ⟨m, hmm⟩ : ∃ m, (L.take i).flatten.length = m := ⟨_, rfl⟩
      rw [hmm] at hoa hfb ⊢
      obtain ⟨b2, off2, c2, arr2, et2, fr2, wr2, he2, hm2, hraw⟩ : ∃ b off c arr et fr wr, ownV r.length ro = .slice (some ⟨b, off, none⟩) r.length c ∧ (⟨b, wr, .cells arr et fr⟩ : Ent) ∈ B0 ∧ ∀ (j : Nat) u, (tisC r)[j]? = some u → arr[off + j]? = some u := by
        rcases hrd with ⟨_, _, _, h⟩ | h
        · exact absurd h hr0
        · exact h
      have hg2 : ∀ j, j < r.length → ∀ (f : Nat) u, (tiC (r.getD j ti0))[f]? = some u → ∀ o, o = off2 + (j * 5 + f) → arr2[o]? = some u := fun j hj f u hu o ho => by rw [ho]; exact hraw _ _ (tisC_get hj hu)
      obtain ⟨n0, hn0⟩ : ∃ n0, (r.headD ti0).n = n0 := ⟨_, rfl⟩
      have hhd : r.headD ti0 = r.getD 0 ti0 := by cases r <;> rfl
      have g4 : ∀ j, j < r.length → ∀ o, o = off2 + (j * 5 + 4) → arr2[o]? = some (.int .i64 n0) := fun j hj o ho => by
        refine hg2 j hj 4 _ ?_ o ho
        have : (r.getD j ti0).n = n0 := by
          rw [← hn0]
          exact hrn _ (by simp [List.getD, hj])
        rw [← this]
        rfl
      have hgo : ∀ o, o = i * 1 → ocur[0 + o]? = some (.slice (some ⟨b2, off2, none⟩) r.length c2) := fun o ho => by rw [ho, Nat.zero_add, Nat.mul_one, hov, he2]
      have hmo : ∀ {X : List Ent}, (⟨ob, true, .cells ocur 23 (0, 0)⟩ : Ent) ∈ B0 ++ X := List.mem_append_left _ hob
      have hmr : ∀ {X : List Ent}, (⟨b2, wr2, .cells arr2 et2 fr2⟩ : Ent) ∈ B0 ++ X := List.mem_append_left _ hm2
      have hne : ∀ j, i = j + 1 → ∃ o9 b9 off9 c9 arr9 et9 fr9 wr9 k9, ocur[j]? = some (.slice (some ⟨b9, off9, none⟩) k9 c9) ∧ 0 < k9 ∧ (⟨b9, wr9, .cells arr9 et9 fr9⟩ : Ent) ∈ B0 ∧ (∀ o, o = off9 + 4 → arr9[o]? = some (.int .i64 o9)) ∧ ¬n0 = o9 := fun j hj => by
        obtain ⟨ob', ocap', ocur', ro', e9, _, hov', hrd'⟩ := hrow j (by omega)
        cases e9
        obtain ⟨q, hq⟩ : ∃ q, L.getD j [] = q := ⟨_, rfl⟩
        rw [hq] at hov' hrd'
        have hqm : q ∈ L := by rw [← hq]; simp [List.getD, show j < L.length by omega]
        obtain ⟨hq0, hqn⟩ := hJ.row q hqm
        have hqp : 0 < q.length := List.length_pos_iff.2 hq0
        obtain ⟨b9, off9, c9, arr9, et9, fr9, wr9, he9, hm9, hg9⟩ := hrd'.cons hqp
        have hqh : q.headD ti0 = q.getD 0 ti0 := by cases q <;> rfl
        refine ⟨(q.headD ti0).n, b9, off9, c9, arr9, et9, fr9, wr9, q.length, by rw [hov', he9], hqp, hm9, fun o ho => ?_, fun e => ?_⟩
        · rw [hqh]
          exact hg9 0 hqp 4 _ rfl o (by omega)
        · have e1 : L = L.take j ++ q :: r :: L.drop (i + 1) := by
            conv => lhs; rw [← List.take_append_drop j L]
            rw [drop_getD [] (show j < L.length by omega), hq, ← hj, drop_getD [] hlt, hr]
          have := hJ.apart _ _ _ _ e1
          rw [hn0] at this
          exact this e.symm
      repeat' (first | ((show Wl _ _ _ _ _ _ _ _ _ _); first | (apply Wl.ev rfl rfl; (focus (first | ((show Ev _ _ _ _ _ _ _ (.move _) _ _); first | exact ev_move rfl) | ((show Ev _ _ _ _ _ _ _ (.load _ _) _ _); first | exact ev_loadAt (agT rfl) rfl hmo (hgo _ (by omega)) | exact ev_loadAt (agT rfl) rfl hmr (g4 0 hrp _ (by omega))) | ((show Ev _ _ _ _ _ _ _ (.fieldAddr _ _ _) _ _); first | exact ev_fieldAddr (fldT rfl) rfl) | ((show Ev _ _ _ _ _ _ _ (.assign _) _ _); first | exact ev_assign rfl) | ((show Ev _ _ _ _ _ _ _ (.pick _ _ _) _ _); first | exact ev_pickF rfl rfl) | ((show Ev _ _ _ _ _ _ _ (.binOp _ _ _ _ _) _ _); first | exact ev_eqi rfl rfl | exact ev_lti rfl rfl | exact ev_gti rfl rfl | exact ev_sub64 rfl rfl (by omega)) | ((show Ev _ _ _ _ _ _ _ (.call _) _ _); first | exact ev_len_slice (slT rfl) rfl) | ((show Ev _ _ _ _ _ _ _ (.indexAddr _ _ _) _ _); first | exact ev_indexAddr (slT rfl) (szT rfl) rfl rfl (by omega))))) | apply Wl.nil) | ((show Wq _ _ _ _ _ _ _ _ _ _); first | (apply Wq.ev rfl rfl; (focus (first | ((show Ev _ _ _ _ _ _ _ (.move _) _ _); first | exact ev_move rfl) | ((show Ev _ _ _ _ _ _ _ (.load _ _) _ _); first | exact ev_loadAt (agT rfl) rfl hmo (hgo _ (by omega)) | exact ev_loadAt (agT rfl) rfl hmr (g4 0 hrp _ (by omega))) | ((show Ev _ _ _ _ _ _ _ (.fieldAddr _ _ _) _ _); first | exact ev_fieldAddr (fldT rfl) rfl) | ((show Ev _ _ _ _ _ _ _ (.assign _) _ _); first | exact ev_assign rfl) | ((show Ev _ _ _ _ _ _ _ (.pick _ _ _) _ _); first | exact ev_pickF rfl rfl) | ((show Ev _ _ _ _ _ _ _ (.binOp _ _ _ _ _) _ _); first | exact ev_eqi rfl rfl | exact ev_lti rfl rfl | exact ev_gti rfl rfl | exact ev_sub64 rfl rfl (by omega)) | ((show Ev _ _ _ _ _ _ _ (.call _) _ _); first | exact ev_len_slice (slT rfl) rfl) | ((show Ev _ _ _ _ _ _ _ (.indexAddr _ _ _) _ _); first | exact ev_indexAddr (slT rfl) (szT rfl) rfl rfl (by omega))))) | apply Wq.nil | (refine Wq.skip rfl rfl ?_) | ((fail_if_success (apply Wq.chk rfl)); refine Wq.split rfl rfl ?_ ?_ <;> (intro h; try (exfalso; first | contradiction | omega | exact h rfl | exact h ⟨rfl, rfl⟩ | (simp_all; done))))) | ((show W _ _ _ _ _ _ _ _ _); first | apply W.seq | ((show W _ _ _ _ _ _ (.inl (.region 8 _ true) :: .inl (.cond _ _ _) :: _) _ _); refine W.joinB 43 False ?_ ?_) | (refine W.loop (X := Nat) (fun j => [(0, .slice p l.length c0), (3, ownV L.length (some (ob, ocap, ocur))), (4, ownV m oa), (6, .slice (some ⟨b2, off2, none⟩) r.length c2), (15, ownV L.length (some (ob, ocap, ocur))), (16, .int .i64 (L.length : Nat)), (17, .int .i64 (i : Nat)), (44, .slice (some ⟨b2, off2, none⟩) r.length c2), (45, .int .i64 (r.length : Nat)), (46, .int .i64 (j : Nat))]) (fun _ => B0 ++ ownH 35 oa) (fun j => j ≤ r.length) (fun j => r.length - j) 0 (Nat.zero_le _) (by repeat (first | exact SubL.nil | refine SubL.cons rfl ?_)) (List.Sublist.refl _) ?_) | (refine W.regionQ mixed (by kernel_rfl) ?_) | apply W.region | apply W.block | apply W.skip | (refine W.condF rfl ?_) | (refine W.cond rfl ?_ ?_ <;> (intro h; try (exfalso; first | contradiction | omega | exact h rfl | exact h ⟨rfl, rfl⟩ | (simp_all; done))))))
      · obtain ⟨o9, b9, off9, c9, arr9, et9, fr9, wr9, k9, hp1, hp2, hp3, hp4, hp5⟩ := hne (i - 1) (by omega)
        have hgp : ∀ o, o = (i - 1) * 1 → ocur[0 + o]? = some (.slice (some ⟨b9, off9, none⟩) k9 c9) := fun o ho => by rw [ho, Nat.zero_add, Nat.mul_one, hp1]
        have hmq : ∀ {X : List Ent}, (⟨b9, wr9, .cells arr9 et9 fr9⟩ : Ent) ∈ B0 ++ X := List.mem_append_left _ hp3
        repeat' (first | ((show Wl _ _ _ _ _ _ _ _ _ _); first | (apply Wl.ev rfl rfl; (focus (first | ((show Ev _ _ _ _ _ _ _ (.load _ _) _ _); first | exact ev_loadAt (agT rfl) rfl hmo (hgp _ (by omega)) | exact ev_loadAt (agT rfl) rfl hmq (hp4 _ (by omega))) | ((show Ev _ _ _ _ _ _ _ (.fieldAddr _ _ _) _ _); first | exact ev_fieldAddr (fldT rfl) rfl) | ((show Ev _ _ _ _ _ _ _ (.pick _ _ _) _ _); first | exact ev_pickT rfl rfl | exact ev_pickF rfl rfl) | ((show Ev _ _ _ _ _ _ _ (.binOp _ _ _ _ _) _ _); first | exact ev_eqi rfl rfl) | ((show Ev _ _ _ _ _ _ _ (.indexAddr _ _ _) _ _); first | exact ev_indexAddr (slT rfl) (szT rfl) rfl rfl (by omega)))))) | ((show Wq _ _ _ _ _ _ _ _ _ _); first | (apply Wq.ev rfl rfl; (focus (first | ((show Ev _ _ _ _ _ _ _ (.load _ _) _ _); first | exact ev_loadAt (agT rfl) rfl hmo (hgp _ (by omega)) | exact ev_loadAt (agT rfl) rfl hmq (hp4 _ (by omega))) | ((show Ev _ _ _ _ _ _ _ (.fieldAddr _ _ _) _ _); first | exact ev_fieldAddr (fldT rfl) rfl) | ((show Ev _ _ _ _ _ _ _ (.pick _ _ _) _ _); first | exact ev_pickT rfl rfl | exact ev_pickF rfl rfl) | ((show Ev _ _ _ _ _ _ _ (.binOp _ _ _ _ _) _ _); first | exact ev_eqi rfl rfl) | ((show Ev _ _ _ _ _ _ _ (.indexAddr _ _ _) _ _); first | exact ev_indexAddr (slT rfl) (szT rfl) rfl rfl (by omega))))) | apply Wq.nil))
        all_goals exact W.meetB rfl ((decide_eq_false hp5).trans (decide_eq_false id).symm) (by repeat (first | exact SubL.nil | refine SubL.cons rfl ?_)) (List.Sublist.refl _)
      · exact W.meetB rfl (decide_eq_false id).symm (by repeat (first | exact SubL.nil | refine SubL.cons rfl ?_)) (List.Sublist.refl _)
      · intro j hj
        by_cases hjr : j < r.length
        · obtain ⟨⟨uk, ut, ux, ua, un⟩, hu⟩ : ∃ u, r.getD j ti0 = u := ⟨_, rfl⟩
          have hun : un = n0 := by
            rw [← hn0, ← hrn _ (show (⟨uk, ut, ux, ua, un⟩ : Ti) ∈ r by rw [← hu]; simp [List.getD, hjr])]
          subst hun
          have hgu := hg2 j hjr
          rw [hu] at hgu
          repeat' (first | ((show Wl _ _ _ _ _ _ _ _ _ _); first | (apply Wl.ev rfl rfl; (focus (first | ((show Ev _ _ _ _ _ _ _ (.move _) _ _); first | exact ev_move rfl) | ((show Ev _ _ _ _ _ _ _ (.load _ _) _ _); first | exact ev_loadAt (agT rfl) rfl (List.Mem.tail _ hmr) (g4 0 hrp _ (by omega)) | exact ev_loadAggAt (agT rfl) (szT rfl) rfl hmr (fun i v h => hgu i v h _ (by omega)) rfl | exact ev_load (agT rfl) rfl (by repeat (first | exact List.Mem.head _ | apply List.Mem.tail)) rfl) | ((show Ev _ _ _ _ _ _ _ (.fieldAddr _ _ _) _ _); first | exact ev_fieldAddr0 (fldT rfl) rfl | exact ev_fieldAddr (fldT rfl) rfl) | ((show Ev _ _ _ _ _ _ _ (.binOp _ _ _ _ _) _ _); first | exact ev_nei rfl rfl | exact ev_lti rfl rfl | exact ev_add64 rfl rfl (by omega)) | ((show Ev _ _ _ _ _ _ _ (.indexAddr _ _ _) _ _); first | exact ev_indexAddr (slT rfl) (szT rfl) rfl rfl (by omega))))) | apply Wl.nil | (refine wl_alloc rfl rfl (zeroT rfl) ?_; intro b) | (refine wl_storeWhole rfl rfl rfl (szT rfl) rfl (by repeat (first | exact Upd.here | apply Upd.there)) (by rfl) ?_)) | ((show Wq _ _ _ _ _ _ _ _ _ _); first | (apply Wq.ev rfl rfl; (focus (first | ((show Ev _ _ _ _ _ _ _ (.move _) _ _); first | exact ev_move rfl) | ((show Ev _ _ _ _ _ _ _ (.load _ _) _ _); first | exact ev_loadAt (agT rfl) rfl (List.Mem.tail _ hmr) (g4 0 hrp _ (by omega)) | exact ev_loadAggAt (agT rfl) (szT rfl) rfl hmr (fun i v h => hgu i v h _ (by omega)) rfl | exact ev_load (agT rfl) rfl (by repeat (first | exact List.Mem.head _ | apply List.Mem.tail)) rfl) | ((show Ev _ _ _ _ _ _ _ (.fieldAddr _ _ _) _ _); first | exact ev_fieldAddr0 (fldT rfl) rfl | exact ev_fieldAddr (fldT rfl) rfl) | ((show Ev _ _ _ _ _ _ _ (.binOp _ _ _ _ _) _ _); first | exact ev_nei rfl rfl | exact ev_lti rfl rfl | exact ev_add64 rfl rfl (by omega)) | ((show Ev _ _ _ _ _ _ _ (.indexAddr _ _ _) _ _); first | exact ev_indexAddr (slT rfl) (szT rfl) rfl rfl (by omega))))) | apply Wq.nil) | ((show W _ _ _ _ _ _ _ _ _); first | apply W.seq | (refine W.regionQ mixed (by kernel_rfl) ?_) | apply W.region | apply W.block | apply W.blk | apply W.skip | (refine W.cond rfl ?_ ?_ <;> (intro h; try (exfalso; first | contradiction | omega | exact h rfl | exact h ⟨rfl, rfl⟩ | (simp_all; done))))))
          all_goals exact W.again (j + 1) hjr (by omega) (by repeat (first | exact SubL.nil | refine SubL.cons rfl ?_)) (SubH.drop (List.Sublist.refl _))
        · obtain rfl : j = r.length := by omega
          repeat' (first | ((show Wl _ _ _ _ _ _ _ _ _ _); first | (apply Wl.ev rfl rfl; (focus (first | ((show Ev _ _ _ _ _ _ _ (.move _) _ _); first | exact ev_move rfl) | ((show Ev _ _ _ _ _ _ _ (.assign _) _ _); first | exact ev_assign rfl) | ((show Ev _ _ _ _ _ _ _ (.binOp _ _ _ _ _) _ _); first | exact ev_lti rfl rfl | exact ev_add64 rfl rfl (by omega))))) | (refine wl_append_own (m := m) (k := r.length) (o := oa) (xs := tisC (L.take i).flatten) (news := tisC r) rfl rfl (slT rfl) (szT rfl) (byT rfl) (zeroT rfl) rfl rfl rfl hoa hmr (tisC_len r) hraw (tisC_one r) hrp (by simp only [maxLen]; omega) (by omega) (by repeat (first | exact TailUp.app | exact TailUp.here | apply TailUp.there | apply TailUp.pre)) ?_; intro o9 ho9) | apply Wl.nil) | ((show Wq _ _ _ _ _ _ _ _ _ _); first | (apply Wq.ev rfl rfl; (focus (first | ((show Ev _ _ _ _ _ _ _ (.move _) _ _); first | exact ev_move rfl) | ((show Ev _ _ _ _ _ _ _ (.assign _) _ _); first | exact ev_assign rfl) | ((show Ev _ _ _ _ _ _ _ (.binOp _ _ _ _ _) _ _); first | exact ev_lti rfl rfl | exact ev_add64 rfl rfl (by omega)))))) | ((show W _ _ _ _ _ _ _ _ _); first | apply W.seq | apply W.region | apply W.blk | (refine W.exit rfl ?_) | (refine W.cond rfl ?_ ?_ <;> (intro h; try (exfalso; first | contradiction | omega | exact h rfl | exact h ⟨rfl, rfl⟩ | (simp_all; done))))))
          refine W.again (i + 1, o9) ⟨hlt, by rw [hfs, List.length_append, tisC_app, hmm]; exact ho9⟩ (by dsimp only; omega) (by dsimp only; rw [hfs, List.length_append, hmm]; exact (by repeat (first | exact SubL.nil | refine SubL.cons rfl ?_))) (List.Sublist.refl _)
    · obtain rfl : i = L.length := by omega
      rw [List.take_length, hJ.all] at hoa ⊢
      repeat' (first | ((show Wl _ _ _ _ _ _ _ _ _ _); first | (apply Wl.ev rfl rfl; (focus (first | ((show Ev _ _ _ _ _ _ _ (.move _) _ _); first | exact ev_move rfl) | ((show Ev _ _ _ _ _ _ _ (.assign _) _ _); first | exact ev_assign rfl) | ((show Ev _ _ _ _ _ _ _ (.binOp _ _ _ _ _) _ _); first | exact ev_lti rfl rfl)))) | ((show Wl _ _ _ _ _ _ _ (⟨_, .call ⟨.value (.func 12), _, _⟩, _, _, _, _⟩ :: _) _ _); refine wl_call0 rfl rfl has12 rfl (fun w hs => Give.to (psame_ok hs (RdI.own hoa (fun p hp => List.mem_append_right _ hp)) (hRB.mono fun p hp => List.mem_append_left _ hp) (by omega)) (congrArg Value.bool (decide_eq_true rfl))) ?_) | apply Wl.nil) | ((show Wq _ _ _ _ _ _ _ _ _ _); first | (apply Wq.ev rfl rfl; (focus (first | ((show Ev _ _ _ _ _ _ _ (.move _) _ _); first | exact ev_move rfl) | ((show Ev _ _ _ _ _ _ _ (.assign _) _ _); first | exact ev_assign rfl) | ((show Ev _ _ _ _ _ _ _ (.binOp _ _ _ _ _) _ _); first | exact ev_lti rfl rfl))))) | ((show W _ _ _ _ _ _ _ _ _); first | apply W.seq | apply W.region | (refine W.exit rfl ?_) | (refine W.cond rfl ?_ ?_ <;> (intro h; try (exfalso; first | contradiction | omega | exact h rfl | exact h ⟨rfl, rfl⟩ | (simp_all; done)))) | (refine W.ret1 rfl rfl ?_; intro w hs)))
      all_goals exact ret_eq hs rfl
end Go.Proofs.YthhfandandfeeaaDoor
