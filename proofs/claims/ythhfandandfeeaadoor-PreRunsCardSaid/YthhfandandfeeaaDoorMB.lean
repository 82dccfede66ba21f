/- Walks: whether what stands here counts, whether a word stands for something, program and document. No condition. -/
import Derived.Test.YthhfandandfeeaaDoorMA
namespace Go.Proofs.YthhfandandfeeaaDoor
open Go.PB Go.RowKit
attribute [local irreducible] Go.Calls
/-- open parts -/
def ptC (p : Pt) : List Value := [.bool p.turned, .bool p.counts, .bool p.other]
def ptsC (P : List Pt) : List Value := P.flatMap ptC
abbrev pt0 : Pt := ⟨false, false, false⟩
theorem flat_get {α : Type} (f : α → List Value) (n : Nat) (hf : ∀ a, (f a).length = n) (d : α) : ∀ {l : List α} {j i : Nat} {v : Value}, j < l.length → (f (l.getD j d))[i]? = some v → (l.flatMap f)[j * n + i]? = some v
  | [], j, _, _, h, _ => by simp at h
  | t :: l, 0, i, v, _, h => by
    rw [List.flatMap_cons, Nat.zero_mul, Nat.zero_add]
    simp only [List.getD_cons_zero] at h
    obtain ⟨hi, _⟩ := List.getElem?_eq_some_iff.1 h
    rw [List.getElem?_append_left hi]
    exact h
  | t :: l, j + 1, i, v, h, h2 => by
    rw [List.flatMap_cons, List.getElem?_append_right (by rw [hf, Nat.succ_mul]; omega), hf, show (j + 1) * n + i - n = j * n + i by rw [Nat.succ_mul]; omega]
    exact flat_get f n hf d (l := l) (by simpa using h) (by simpa using h2)
theorem flat_len {α : Type} (f : α → List Value) (n : Nat) (hf : ∀ a, (f a).length = n) (l : List α) : (l.flatMap f).length = l.length * n := by
  induction l with
  | nil => simp
  | cons a l ih => rw [List.flatMap_cons, List.length_append, ih, hf, List.length_cons, Nat.succ_mul]; omega
theorem cnt_snoc (P : List Pt) (j : Nat) (hj : j < P.length) : (P.take (j + 1)).all (·.counts) = ((P.take j).all (·.counts) && (P.getD j pt0).counts) := by
  rw [List.take_succ_eq_append_getElem hj, List.all_append]
  congr 1
  simp [List.getD, hj]
theorem cnt_false {P : List Pt} {j : Nat} (hj : j < P.length) (h : (P.getD j pt0).counts = false) : cntB P = false := by
  unfold cntB
  rw [Bool.eq_false_iff]
  intro ha
  have := List.all_eq_true.1 ha (P[j]) (List.getElem_mem hj)
  simp [List.getD, hj] at h
  rw [h] at this
  cases this
/-- a machine's block -/
abbrev mrow (tb : Nat) (pv ov : Value) (d : Int) : Obj := row [.map (some tb), pv, ov, .int .i64 d] 46
set_option maxRecDepth 100000 in
set_option maxHeartbeats 1000000 in
theorem counts_ok {M : List Nat} {w0 w : World} {H : List Ent} {mb tb : Nat} {ov : Value} {d : Int} {P : List Pt} {o : Ow} {wr : Bool} (hst : St M w0 w H) (hm : (⟨mb, wr, mrow tb (ownV P.length o) ov d⟩ : Ent) ∈ H) (ho : ownOk P.length 3 (ptsC P) o) (hh : ∀ p ∈ ownH 71 o, p ∈ H) (hP : P.length ≤ 1000000) :
    Calls Tryd.prog 22 #[.pointer (some ⟨mb, 0, none⟩)] w (Give (.bool (cntB P)) w) := by
  refine give_of_W (vs := [.pointer (some ⟨mb, 0, none⟩)]) Tryd.func22 rfl Tryd.ntmps22 (Nat.le_of_ble_eq_true rfl) hst.reads ?_
  simp only [argL]
  have hm' := mem_ro hm
  rcases o with _ | ⟨b, cap, cur⟩
  · obtain rfl : P = [] := List.eq_nil_of_length_eq_zero ho.1
    repeat' (first | (apply gL; first | (apply Wl.ev rfl rfl; (focus (first | exact ev_move rfl | (apply gLoa; first | exact ev_load (agT rfl) rfl hm' rfl) | (apply gFie; first | exact ev_fieldAddr0 (fldT rfl) rfl) | exact ev_assign rfl | exact ev_lti rfl rfl | (apply gCal; first | exact ev_len_own (slT rfl) ho rfl) | exact ev_nilCheck_ptr rfl))) | apply Wl.nil) | (apply gQ; first | (apply Wq.ev rfl rfl; (focus (first | exact ev_move rfl | (apply gLoa; first | exact ev_load (agT rfl) rfl hm' rfl) | (apply gFie; first | exact ev_fieldAddr0 (fldT rfl) rfl) | exact ev_assign rfl | exact ev_lti rfl rfl | (apply gCal; first | exact ev_len_own (slT rfl) ho rfl) | exact ev_nilCheck_ptr rfl)))) | ((show W _ _ _ _ _ _ _ _ _); first | apply W.seq | (refine W.rounds 1 ?_) | apply W.round | apply W.region | apply W.block | (refine W.exit rfl ?_) | (refine W.condF rfl ?_) | (refine W.ret1 rfl rfl ?_; intro w hs)))
    all_goals exact ret_eq hs rfl
  · have hb := mem_ro (hh _ (List.Mem.head _))
    have hg : ∀ j, j < P.length → ∀ o, o = j * 3 → ∀ (f : Nat) u, (ptC (P.getD j pt0))[f]? = some u → cur[o + f]? = some u := fun j hj o ho' f u hu => by
      rw [ho']
      exact own_get ho (flat_get ptC 3 (fun _ => rfl) pt0 hj hu)
    repeat' (first | (apply gL; first | (apply Wl.ev rfl rfl; (focus (first | exact ev_move rfl | (apply gLoa; first | exact ev_load (agT rfl) rfl hm' rfl) | (apply gFie; first | exact ev_fieldAddr0 (fldT rfl) rfl) | exact ev_assign rfl | (apply gCal; first | exact ev_len_own (slT rfl) ho rfl) | exact ev_nilCheck_ptr rfl))) | apply Wl.nil) | (apply gQ; first | (apply Wq.ev rfl rfl; (focus (first | exact ev_move rfl | (apply gLoa; first | exact ev_load (agT rfl) rfl hm' rfl) | (apply gFie; first | exact ev_fieldAddr0 (fldT rfl) rfl) | exact ev_assign rfl | (apply gCal; first | exact ev_len_own (slT rfl) ho rfl) | exact ev_nilCheck_ptr rfl)))) | ((show W _ _ _ _ _ _ _ _ _); first | apply W.seq | (refine W.loop (X := Nat) (fun j => [(0, .pointer (some ⟨mb, 0, none⟩)), (8, ownV P.length (some (b, cap, cur))), (9, .int .i64 (P.length : Nat)), (10, .int .i64 (j : Nat))]) (fun _ => ro H) (fun j => j ≤ P.length ∧ (P.take j).all (·.counts) = true) (fun j => P.length - j) 0 ⟨Nat.zero_le _, by simp⟩ (by repeat (first | exact SubL.nil | refine SubL.cons rfl ?_)) (List.Sublist.refl _) ?_) | apply W.region | apply W.block))
    rintro j ⟨hj, hall⟩
    simp only [ownV]
    by_cases hlt : j < P.length
    · obtain ⟨⟨pa, pb, pc⟩, hp⟩ : ∃ p, P.getD j pt0 = p := ⟨_, rfl⟩
      have hg := hg j hlt
      rw [hp] at hg
      cases pb
      · repeat' (first | (apply gL; first | (apply Wl.ev rfl rfl; (focus (first | (apply gLoa; first | exact ev_loadAggAt (agT rfl) (szT rfl) rfl hb (hg _ (by omega)) rfl | exact ev_load (agT rfl) rfl (by repeat (first | exact List.Mem.head _ | apply List.Mem.tail)) rfl) | (apply gFie; first | exact ev_fieldAddr0 (fldT rfl) rfl) | exact ev_assign rfl | exact ev_lti rfl rfl | exact ev_notF rfl | (apply gIxA; first | exact ev_indexAddr (slT rfl) (szT rfl) rfl rfl (by omega))))) | (refine wl_alloc rfl rfl (zeroT rfl) ?_; intro pb) | apply Wl.nil | (refine wl_storeWhole rfl rfl rfl (szT rfl) rfl (by repeat (first | exact Upd.here | apply Upd.there)) (by rfl) ?_)) | (apply gQ; first | (apply Wq.ev rfl rfl; (focus (first | (apply gLoa; first | exact ev_loadAggAt (agT rfl) (szT rfl) rfl hb (hg _ (by omega)) rfl | exact ev_load (agT rfl) rfl (by repeat (first | exact List.Mem.head _ | apply List.Mem.tail)) rfl) | (apply gFie; first | exact ev_fieldAddr0 (fldT rfl) rfl) | exact ev_assign rfl | exact ev_lti rfl rfl | exact ev_notF rfl | (apply gIxA; first | exact ev_indexAddr (slT rfl) (szT rfl) rfl rfl (by omega)))))) | ((show W _ _ _ _ _ _ _ _ _); first | apply W.seq | apply W.region | apply W.block | apply W.skip | (refine W.condT rfl ?_) | (refine W.cond rfl ?_ ?_ <;> (intro h; try (exfalso; first | contradiction | omega | exact h rfl | exact h ⟨rfl, rfl⟩ | (simp_all; done)))) | (refine W.ret1 rfl rfl ?_; intro w hs)))
        all_goals exact ret_eq hs (congrArg Value.bool (cnt_false hlt (by rw [hp])).symm)
      · repeat' (first | (apply gL; first | (apply Wl.ev rfl rfl; (focus (first | exact ev_move rfl | (apply gLoa; first | exact ev_loadAggAt (agT rfl) (szT rfl) rfl hb (hg _ (by omega)) rfl | exact ev_load (agT rfl) rfl (by repeat (first | exact List.Mem.head _ | apply List.Mem.tail)) rfl) | (apply gFie; first | exact ev_fieldAddr0 (fldT rfl) rfl) | (apply gBin; first | exact ev_lti rfl rfl | exact ev_add64 rfl rfl (by omega)) | exact ev_notT rfl | (apply gIxA; first | exact ev_indexAddr (slT rfl) (szT rfl) rfl rfl (by omega))))) | (refine wl_alloc rfl rfl (zeroT rfl) ?_; intro pb) | apply Wl.nil | (refine wl_storeWhole rfl rfl rfl (szT rfl) rfl (by repeat (first | exact Upd.here | apply Upd.there)) (by rfl) ?_)) | (apply gQ; first | (apply Wq.ev rfl rfl; (focus (first | exact ev_move rfl | (apply gLoa; first | exact ev_loadAggAt (agT rfl) (szT rfl) rfl hb (hg _ (by omega)) rfl | exact ev_load (agT rfl) rfl (by repeat (first | exact List.Mem.head _ | apply List.Mem.tail)) rfl) | (apply gFie; first | exact ev_fieldAddr0 (fldT rfl) rfl) | (apply gBin; first | exact ev_lti rfl rfl | exact ev_add64 rfl rfl (by omega)) | exact ev_notT rfl | (apply gIxA; first | exact ev_indexAddr (slT rfl) (szT rfl) rfl rfl (by omega)))))) | ((show W _ _ _ _ _ _ _ _ _); first | apply W.seq | apply W.region | apply W.block | apply W.blk | apply W.skip | (refine W.condF rfl ?_) | (refine W.cond rfl ?_ ?_ <;> (intro h; try (exfalso; first | contradiction | omega | exact h rfl | exact h ⟨rfl, rfl⟩ | (simp_all; done))))))
        exact W.again (j + 1) ⟨hlt, by rw [cnt_snoc P j hlt, hall, hp]; rfl⟩ (by omega) (by repeat (first | exact SubL.nil | refine SubL.cons rfl ?_)) (by repeat (first | exact List.Sublist.refl _ | apply List.Sublist.cons))
    · obtain rfl : j = P.length := by omega
      repeat' (first | (apply gL; first | (apply Wl.ev rfl rfl; (focus (first | exact ev_assign rfl | exact ev_lti rfl rfl))) | apply Wl.nil) | (apply gQ; first | (apply Wq.ev rfl rfl; (focus (first | exact ev_assign rfl | exact ev_lti rfl rfl)))) | ((show W _ _ _ _ _ _ _ _ _); first | apply W.seq | apply W.region | (refine W.exit rfl ?_) | (refine W.cond rfl ?_ ?_ <;> (intro h; try (exfalso; first | contradiction | omega | exact h rfl | exact h ⟨rfl, rfl⟩ | (simp_all; done)))) | (refine W.ret1 rfl rfl ?_; intro w hs)))
      all_goals exact ret_eq hs (by rw [List.take_length] at hall; exact congrArg Value.bool hall.symm)
/-- what words stand for, as the program keeps it -/
def WdAt (R : List Ent) (tab : Tab) (W : Wds) : Prop := (tab.map (·.1)).Nodup ∧ ∀ k, match wget W k with
  | none => tget tab k = none
  | some l => ∃ v, tget tab k = some v ∧ RdE R v l ∧ l.length ≤ 2048
set_option maxRecDepth 100000 in
set_option maxHeartbeats 1000000 in
theorem stands_ok {M : List Nat} {w0 w : World} {H R : List Ent} {mb tb c : Nat} {pv ov : Value} {d : Int} {tab : Tab} {V : Wds} {wr wr' : Bool} (s : List UInt8) (hst : St M w0 w H) (hm : (⟨mb, wr, mrow tb pv ov d⟩ : Ent) ∈ H) (ht : (⟨tb, wr', mobj tab c⟩ : Ent) ∈ H) (hW : WdAt R tab V) :
    Calls Tryd.prog 36 #[.pointer (some ⟨mb, 0, none⟩), st s] w (Give (.bool (standsB V s)) w) := by
  refine give_of_W (vs := [.pointer (some ⟨mb, 0, none⟩), st s]) Tryd.func36 rfl Tryd.ntmps36 (Nat.le_of_ble_eq_true rfl) hst.reads ?_
  simp only [argL]
  have hm' := mem_ro hm
  have ht' := mem_ro ht
  have hk := hW.2 s
  obtain ⟨x, hx⟩ : ∃ x, wget V s = x := ⟨_, rfl⟩
  rw [hx] at hk
  cases x with
  | none =>
    have hsb : standsB V s = (decide (s = nLINE) || decide (s = nVER)) := by
      unfold standsB
      rw [hx]
      rw [Bool.eq_iff_iff]
      simp
    rw [hsb]
    dsimp only at hk
    repeat' (first | (apply gL; first | (apply Wl.ev rfl rfl; (focus (first | exact ev_move rfl | (apply gLoa; first | exact ev_load (agT rfl) rfl hm' rfl) | (apply gFie; first | exact ev_fieldAddr0 (fldT rfl) rfl) | exact ev_assign rfl | (apply gPic; first | exact ev_pickT rfl rfl | exact ev_pickF rfl rfl) | exact ev_eqs rfl rfl | exact ev_extract rfl rfl | exact ev_nilCheck_ptr rfl | exact ev_lookup_miss (mpT rfl) (by rfl) rfl rfl ht' hk))) | apply Wl.nil | (refine Wl.skip rfl rfl ?_) | ((fail_if_success (apply Wl.chk rfl)); refine Wl.split rfl rfl ?_ ?_ <;> (intro h; try (exfalso; first | contradiction | omega | exact h rfl | exact h ⟨rfl, rfl⟩ | (simp_all; done))))) | (apply gQ; first | (apply Wq.ev rfl rfl; (focus (first | exact ev_move rfl | (apply gLoa; first | exact ev_load (agT rfl) rfl hm' rfl) | (apply gFie; first | exact ev_fieldAddr0 (fldT rfl) rfl) | exact ev_assign rfl | (apply gPic; first | exact ev_pickT rfl rfl | exact ev_pickF rfl rfl) | exact ev_eqs rfl rfl | exact ev_extract rfl rfl | exact ev_nilCheck_ptr rfl | exact ev_lookup_miss (mpT rfl) (by rfl) rfl rfl ht' hk)))) | ((show W _ _ _ _ _ _ _ _ _); first | apply W.seq | apply W.region | (refine W.ret1 rfl rfl ?_; intro w hs)))
    all_goals exact ret_eq hs (congrArg Value.bool (by rw [Bool.eq_iff_iff]; first | (simp_all [nLINE, nVER]; done) | (simp_all [nLINE, nVER]; exact decide_eq_true_iff.symm)))
  | some l =>
    have hsb : standsB V s = true := by
      unfold standsB
      rw [hx]
      simp
    rw [hsb]
    obtain ⟨v, hv, _⟩ := hk
    repeat' (first | (apply gL; first | (apply Wl.ev rfl rfl; (focus (first | exact ev_move rfl | (apply gLoa; first | exact ev_load (agT rfl) rfl hm' rfl) | (apply gFie; first | exact ev_fieldAddr0 (fldT rfl) rfl) | exact ev_assign rfl | exact ev_pickT rfl rfl | exact ev_extract rfl rfl | exact ev_nilCheck_ptr rfl | exact ev_lookup_hit (mpT rfl) rfl rfl ht' hv))) | apply Wl.nil | (refine Wl.skip rfl rfl ?_)) | (apply gQ; first | (apply Wq.ev rfl rfl; (focus (first | exact ev_move rfl | (apply gLoa; first | exact ev_load (agT rfl) rfl hm' rfl) | (apply gFie; first | exact ev_fieldAddr0 (fldT rfl) rfl) | exact ev_assign rfl | exact ev_pickT rfl rfl | exact ev_extract rfl rfl | exact ev_nilCheck_ptr rfl | exact ev_lookup_hit (mpT rfl) rfl rfl ht' hv)))) | ((show W _ _ _ _ _ _ _ _ _); first | apply W.seq | apply W.region | (refine W.ret1 rfl rfl ?_; intro w hs)))
    all_goals exact ret_eq hs rfl
end Go.Proofs.YthhfandandfeeaaDoor
