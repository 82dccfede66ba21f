/- Walks: which scripts are the same, by the program. No condition. -/
import Derived.Test.YtdnicbbandbdbaaDoorSC
namespace Go.Proofs.YtdnicbbandbdbaaDoor
open Go.PB Go.RowKit
attribute [local irreducible] Go.Calls
theorem take_eq_succ {α : Type} {l m : List α} {j : Nat} {d : α} (hl : l.length = m.length) (hj : j < l.length) (h : l.take j = m.take j) (he : l.getD j d = m.getD j d) : l.take (j + 1) = m.take (j + 1) := by
  have hm : j < m.length := by omega
  rw [List.take_succ_eq_append_getElem hj, List.take_succ_eq_append_getElem hm, h]
  congr 2
  simpa [List.getD, hj, hm] using he
theorem ne_of_getD {α : Type} {l m : List α} {j : Nat} {d : α} (h : ¬l.getD j d = m.getD j d) : ¬l = m := fun e => h (by rw [e])
set_option maxRecDepth 100000 in
theorem equalI_ok {M : List Nat} {w0 w : World} {R : List Ent} {v u : Value} {l m : List Int} (hst : St M w0 w R) (hv : RdX R v l.length (intV l)) (hu : RdX R u m.length (intV m)) (hl : l.length ≤ 4611686018427387904) :
    Calls Tryd.prog 41 #[v, u] w (Give (.bool (decide (l = m))) w) := by
  have hv' := hv.ro
  have hu' := hu.ro
  obtain ⟨p, c, rfl⟩ := hv.len
  obtain ⟨q, d, rfl⟩ := hu.len
  refine give_of_W (vs := [.slice p l.length c, .slice q m.length d]) Tryd.func41 rfl Tryd.ntmps41 (Nat.le_of_ble_eq_true rfl) hst.reads ?_
  simp only [argL]
  by_cases hlen : l.length = m.length
  case neg =>
    repeat' (first | (apply gL; first | (apply Wl.ev rfl rfl; (focus (first | exact ev_move rfl | exact ev_assign rfl | exact ev_nei rfl rfl | (apply gCal; first | exact ev_len_slice (slT rfl) rfl)))) | apply Wl.nil) | (apply gQ; first | (apply Wq.ev rfl rfl; (focus (first | exact ev_move rfl | exact ev_assign rfl | exact ev_nei rfl rfl | (apply gCal; first | exact ev_len_slice (slT rfl) rfl))))) | ((show W _ _ _ _ _ _ _ _ _); first | apply W.seq | apply W.region | (refine W.cond rfl ?_ ?_ <;> (intro h; try (exfalso; first | contradiction | omega | exact h rfl | exact h ⟨rfl, rfl⟩ | (simp_all; done)))) | (refine W.ret1 rfl rfl ?_; intro w hs)))
    all_goals first | exact ret_eq hs (congrArg Value.bool (decide_eq_false (fun e => hlen (by rw [e]))).symm) | (exfalso; omega)
  repeat' (first | (apply gL; first | (apply Wl.ev rfl rfl; (focus (first | exact ev_move rfl | exact ev_assign rfl | exact ev_nei rfl rfl | (apply gCal; first | exact ev_len_slice (slT rfl) rfl)))) | apply Wl.nil) | (apply gQ; first | (apply Wq.ev rfl rfl; (focus (first | exact ev_move rfl | exact ev_assign rfl | exact ev_nei rfl rfl | (apply gCal; first | exact ev_len_slice (slT rfl) rfl))))) | ((show W _ _ _ _ _ _ _ _ _); first | apply W.seq | (refine W.loop (X := Nat) (fun j => [(0, .slice p l.length c), (1, .slice q m.length d), (12, .int .i64 (l.length : Nat)), (13, .int .i64 (j : Nat))]) (fun _ => ro R) (fun j => j ≤ l.length ∧ l.take j = m.take j) (fun j => l.length - j) 0 ⟨Nat.zero_le _, rfl⟩ (by repeat (first | exact SubL.nil | refine SubL.cons rfl ?_)) (List.Sublist.refl _) ?_) | apply W.region | apply W.block | apply W.skip | (refine W.cond rfl ?_ ?_ <;> (intro h; try (exfalso; first | contradiction | omega | exact h rfl | exact h ⟨rfl, rfl⟩ | (simp_all; done))))))
  rintro j ⟨hj, hall⟩
  by_cases hlt : j < l.length
  · obtain ⟨b, off, c1, arr, et, fr, wr, he, hm, hcc, hgt⟩ := hv'.pos (by omega)
    cases he
    obtain ⟨b2, off2, c2, arr2, et2, fr2, wr2, he2, hm2, hcc2, hgt2⟩ := hu'.pos (by omega)
    cases he2
    have g0 := hgt j _ (intV_get hlt)
    have g1 := hgt2 j _ (intV_get (by omega))
    have hnx := take_eq_succ (d := 0) hlen hlt hall
    have hne := ne_of_getD (l := l) (m := m) (j := j) (d := 0)
    obtain ⟨y, hy⟩ : ∃ y, l.getD j 0 = y := ⟨_, rfl⟩
    obtain ⟨z, hz⟩ : ∃ y, m.getD j 0 = y := ⟨_, rfl⟩
    rw [hy] at g0 hnx hne
    rw [hz] at g1 hnx hne
    repeat' (first | (apply gL; first | (apply Wl.ev rfl rfl; (focus (first | exact ev_move rfl | (apply gLoa; first | exact ev_loadAt (agT rfl) rfl hm (g0 _ (by omega)) | exact ev_loadAt (agT rfl) rfl hm2 (g1 _ (by omega))) | exact ev_assign rfl | (apply gBin; first | exact ev_nei rfl rfl | exact ev_lti rfl rfl | exact ev_add64 rfl rfl (by omega)) | (apply gIxA; first | exact ev_indexAddr (slT rfl) (szT rfl) rfl rfl (by omega))))) | apply Wl.nil) | (apply gQ; first | (apply Wq.ev rfl rfl; (focus (first | exact ev_move rfl | (apply gLoa; first | exact ev_loadAt (agT rfl) rfl hm (g0 _ (by omega)) | exact ev_loadAt (agT rfl) rfl hm2 (g1 _ (by omega))) | exact ev_assign rfl | (apply gBin; first | exact ev_nei rfl rfl | exact ev_lti rfl rfl | exact ev_add64 rfl rfl (by omega)) | (apply gIxA; first | exact ev_indexAddr (slT rfl) (szT rfl) rfl rfl (by omega))))) | apply Wq.nil) | ((show W _ _ _ _ _ _ _ _ _); first | apply W.seq | (refine W.regionQ mixed (by kernel_rfl) ?_) | apply W.region | apply W.block | apply W.blk | apply W.skip | (refine W.cond rfl ?_ ?_ <;> (intro h; try (exfalso; first | contradiction | omega | exact h rfl | exact h ⟨rfl, rfl⟩ | (simp_all; done)))) | (refine W.ret1 rfl rfl ?_; intro w hs)))
    all_goals first
      | exact W.again (j + 1) ⟨hlt, hnx (by omega)⟩ (by omega) (by repeat (first | exact SubL.nil | refine SubL.cons rfl ?_)) (List.Sublist.refl _)
      | exact ret_eq hs (congrArg Value.bool (decide_eq_false (hne (by omega))).symm)
  · obtain rfl : j = l.length := by omega
    rw [List.take_length, hlen, List.take_length] at hall
    repeat' (first | (apply gL; first | (apply Wl.ev rfl rfl; (focus (first | exact ev_assign rfl | exact ev_lti rfl rfl))) | apply Wl.nil) | (apply gQ; first | (apply Wq.ev rfl rfl; (focus (first | exact ev_assign rfl | exact ev_lti rfl rfl)))) | ((show W _ _ _ _ _ _ _ _ _); first | apply W.seq | apply W.region | (refine W.exit rfl ?_) | (refine W.cond rfl ?_ ?_ <;> (intro h; try (exfalso; first | contradiction | omega | exact h rfl | exact h ⟨rfl, rfl⟩ | (simp_all; done)))) | (refine W.ret1 rfl rfl ?_; intro w hs)))
    all_goals exact ret_eq hs (congrArg Value.bool (decide_eq_true hall).symm)
set_option maxRecDepth 100000 in
theorem equalB_ok {M : List Nat} {w0 w : World} {R : List Ent} {v u : Value} {l m : List UInt8} (hst : St M w0 w R) (hv : RdX R v l.length (bytV l)) (hu : RdX R u m.length (bytV m)) (hl : l.length ≤ 4611686018427387904) :
    Calls Tryd.prog 42 #[v, u] w (Give (.bool (decide (l = m))) w) := by
  have hv' := hv.ro
  have hu' := hu.ro
  obtain ⟨p, c, rfl⟩ := hv.len
  obtain ⟨q, d, rfl⟩ := hu.len
  refine give_of_W (vs := [.slice p l.length c, .slice q m.length d]) Tryd.func42 rfl Tryd.ntmps42 (Nat.le_of_ble_eq_true rfl) hst.reads ?_
  simp only [argL]
  by_cases hlen : l.length = m.length
  case neg =>
    repeat' (first | (apply gL; first | (apply Wl.ev rfl rfl; (focus (first | exact ev_move rfl | exact ev_assign rfl | exact ev_nei rfl rfl | (apply gCal; first | exact ev_len_slice (slT rfl) rfl)))) | apply Wl.nil) | (apply gQ; first | (apply Wq.ev rfl rfl; (focus (first | exact ev_move rfl | exact ev_assign rfl | exact ev_nei rfl rfl | (apply gCal; first | exact ev_len_slice (slT rfl) rfl))))) | ((show W _ _ _ _ _ _ _ _ _); first | apply W.seq | apply W.region | (refine W.cond rfl ?_ ?_ <;> (intro h; try (exfalso; first | contradiction | omega | exact h rfl | exact h ⟨rfl, rfl⟩ | (simp_all; done)))) | (refine W.ret1 rfl rfl ?_; intro w hs)))
    all_goals first | exact ret_eq hs (congrArg Value.bool (decide_eq_false (fun e => hlen (by rw [e]))).symm) | (exfalso; omega)
  repeat' (first | (apply gL; first | (apply Wl.ev rfl rfl; (focus (first | exact ev_move rfl | exact ev_assign rfl | exact ev_nei rfl rfl | (apply gCal; first | exact ev_len_slice (slT rfl) rfl)))) | apply Wl.nil) | (apply gQ; first | (apply Wq.ev rfl rfl; (focus (first | exact ev_move rfl | exact ev_assign rfl | exact ev_nei rfl rfl | (apply gCal; first | exact ev_len_slice (slT rfl) rfl))))) | ((show W _ _ _ _ _ _ _ _ _); first | apply W.seq | (refine W.loop (X := Nat) (fun j => [(0, .slice p l.length c), (1, .slice q m.length d), (12, .int .i64 (l.length : Nat)), (13, .int .i64 (j : Nat))]) (fun _ => ro R) (fun j => j ≤ l.length ∧ l.take j = m.take j) (fun j => l.length - j) 0 ⟨Nat.zero_le _, rfl⟩ (by repeat (first | exact SubL.nil | refine SubL.cons rfl ?_)) (List.Sublist.refl _) ?_) | apply W.region | apply W.block | apply W.skip | (refine W.cond rfl ?_ ?_ <;> (intro h; try (exfalso; first | contradiction | omega | exact h rfl | exact h ⟨rfl, rfl⟩ | (simp_all; done))))))
  rintro j ⟨hj, hall⟩
  by_cases hlt : j < l.length
  · obtain ⟨b, off, c1, arr, et, fr, wr, he, hm, hcc, hgt⟩ := hv'.pos (by omega)
    cases he
    obtain ⟨b2, off2, c2, arr2, et2, fr2, wr2, he2, hm2, hcc2, hgt2⟩ := hu'.pos (by omega)
    cases he2
    have g0 := hgt j _ (bytV_get hlt)
    have g1 := hgt2 j _ (bytV_get (by omega))
    have hnx := take_eq_succ (d := 0) hlen hlt hall
    have hne := ne_of_getD (l := l) (m := m) (j := j) (d := 0)
    obtain ⟨y, hy⟩ : ∃ y, l.getD j 0 = y := ⟨_, rfl⟩
    obtain ⟨z, hz⟩ : ∃ y, m.getD j 0 = y := ⟨_, rfl⟩
    rw [hy] at g0 hnx hne
    rw [hz] at g1 hnx hne
    have h8 : (y.toNat : Int) = z.toNat → y = z := fun e => UInt8.toNat_inj.1 (by omega)
    repeat' (first | (apply gL; first | (apply Wl.ev rfl rfl; (focus (first | exact ev_move rfl | (apply gLoa; first | exact ev_loadAt (agT rfl) rfl hm (g0 _ (by omega)) | exact ev_loadAt (agT rfl) rfl hm2 (g1 _ (by omega))) | exact ev_assign rfl | (apply gBin; first | exact ev_nei rfl rfl | exact ev_lti rfl rfl | exact ev_add64 rfl rfl (by omega)) | (apply gIxA; first | exact ev_indexAddr (slT rfl) (szT rfl) rfl rfl (by omega))))) | apply Wl.nil) | (apply gQ; first | (apply Wq.ev rfl rfl; (focus (first | exact ev_move rfl | (apply gLoa; first | exact ev_loadAt (agT rfl) rfl hm (g0 _ (by omega)) | exact ev_loadAt (agT rfl) rfl hm2 (g1 _ (by omega))) | exact ev_assign rfl | (apply gBin; first | exact ev_nei rfl rfl | exact ev_lti rfl rfl | exact ev_add64 rfl rfl (by omega)) | (apply gIxA; first | exact ev_indexAddr (slT rfl) (szT rfl) rfl rfl (by omega))))) | apply Wq.nil) | ((show W _ _ _ _ _ _ _ _ _); first | apply W.seq | (refine W.regionQ mixed (by kernel_rfl) ?_) | apply W.region | apply W.block | apply W.blk | apply W.skip | (refine W.cond rfl ?_ ?_ <;> (intro h; try (exfalso; first | contradiction | omega | exact h rfl | exact h ⟨rfl, rfl⟩ | (simp_all; done)))) | (refine W.ret1 rfl rfl ?_; intro w hs)))
    all_goals first
      | exact W.again (j + 1) ⟨hlt, hnx (h8 (by omega))⟩ (by omega) (by repeat (first | exact SubL.nil | refine SubL.cons rfl ?_)) (List.Sublist.refl _)
      | exact ret_eq hs (congrArg Value.bool (decide_eq_false (hne (by rintro rfl; contradiction))).symm)
      | fail
  · obtain rfl : j = l.length := by omega
    rw [List.take_length, hlen, List.take_length] at hall
    repeat' (first | (apply gL; first | (apply Wl.ev rfl rfl; (focus (first | exact ev_assign rfl | exact ev_lti rfl rfl))) | apply Wl.nil) | (apply gQ; first | (apply Wq.ev rfl rfl; (focus (first | exact ev_assign rfl | exact ev_lti rfl rfl)))) | ((show W _ _ _ _ _ _ _ _ _); first | apply W.seq | apply W.region | (refine W.exit rfl ?_) | (refine W.cond rfl ?_ ?_ <;> (intro h; try (exfalso; first | contradiction | omega | exact h rfl | exact h ⟨rfl, rfl⟩ | (simp_all; done)))) | (refine W.ret1 rfl rfl ?_; intro w hs)))
    all_goals exact ret_eq hs (congrArg Value.bool (decide_eq_true hall).symm)
theorem cl_dec (a a' : Int) (b b' : List Int) (c c' d d' : List UInt8) : decide ((⟨a, b, c, d⟩ : Cl) = ⟨a', b', c', d'⟩) = (decide (a = a') && decide (d = d') && decide (b = b') && decide (c = c')) := by
  rw [Bool.eq_iff_iff]
  simp only [decide_eq_true_eq, Bool.and_eq_true, Cl.mk.injEq]
  constructor
  · rintro ⟨h1, h2, h3, h4⟩; exact ⟨⟨⟨h1, h4⟩, h2⟩, h3⟩
  · rintro ⟨⟨⟨h1, h4⟩, h2⟩, h3⟩; exact ⟨h1, h2, h3, h4⟩
set_option maxRecDepth 100000 in
theorem same1_ok {M : List Nat} {w0 w : World} {R : List Ent} {y z : Cv} (hst : St M w0 w R) (hy : CvOk R y) (hz : CvOk R z) (hi : y.c.is.length ≤ 1000000) (hb : y.c.bs.length ≤ 1000000) :
    Calls Tryd.prog 40 #[cvV y, cvV z] w (Give (.bool (decide (y.c = z.c))) w) := by
  have hy' := hy.ro
  have hz' := hz.ro
  obtain ⟨⟨op, is, bs, tx⟩, iv, bv⟩ := y
  obtain ⟨⟨op', is', bs', tx'⟩, iv', bv'⟩ := z
  dsimp only at hi hb
  obtain ⟨p1, c1, rfl⟩ : ∃ p c, iv = .slice p is.length c := hy.1.len
  obtain ⟨p2, c2, rfl⟩ : ∃ p c, bv = .slice p bs.length c := hy.2.len
  obtain ⟨p3, c3, rfl⟩ : ∃ p c, iv' = .slice p is'.length c := hz.1.len
  obtain ⟨p4, c4, rfl⟩ : ∃ p c, bv' = .slice p bs'.length c := hz.2.len
  refine give_of_W (vs := [cvV ⟨⟨op, is, bs, tx⟩, .slice p1 is.length c1, .slice p2 bs.length c2⟩, cvV ⟨⟨op', is', bs', tx'⟩, .slice p3 is'.length c3, .slice p4 bs'.length c4⟩]) Tryd.func40 rfl Tryd.ntmps40 (Nat.le_of_ble_eq_true rfl) hst.reads ?_
  simp only [argL]
  obtain ⟨ei, hei⟩ : ∃ e, decide (is = is') = e := ⟨_, rfl⟩
  obtain ⟨eb, heb⟩ : ∃ e, decide (bs = bs') = e := ⟨_, rfl⟩
  have c1 : ∀ {M w0 w} {q1 q2 : Ent}, St M w0 w (q1 :: q2 :: ro R) → Calls Tryd.prog 41 #[.slice p1 is.length c1, .slice p3 is'.length c3] w (Give (.bool ei) w) := fun {M w0 w q1 q2} hs => by
    rw [← hei]
    exact equalI_ok hs (hy'.1.mono fun p hp => List.Mem.tail _ (List.Mem.tail _ hp)) (hz'.1.mono fun p hp => List.Mem.tail _ (List.Mem.tail _ hp)) (by omega)
  have c2 : ∀ {M w0 w} {q1 q2 : Ent}, St M w0 w (q1 :: q2 :: ro R) → Calls Tryd.prog 42 #[.slice p2 bs.length c2, .slice p4 bs'.length c4] w (Give (.bool eb) w) := fun {M w0 w q1 q2} hs => by
    rw [← heb]
    exact equalB_ok hs (hy'.2.mono fun p hp => List.Mem.tail _ (List.Mem.tail _ hp)) (hz'.2.mono fun p hp => List.Mem.tail _ (List.Mem.tail _ hp)) (by omega)
  repeat' (first | (apply gL; first | (apply Wl.ev rfl rfl; (focus (first | exact ev_move rfl | (apply gLoa; first | exact ev_load (agT rfl) rfl (by repeat (first | exact List.Mem.head _ | apply List.Mem.tail)) rfl) | (apply gFie; first | exact ev_fieldAddr0 (fldT rfl) rfl) | exact ev_assign rfl | (apply gPic; first | exact ev_pickT rfl rfl | exact ev_pickF rfl rfl) | (apply gBin; first | exact ev_eqi rfl rfl | exact ev_eqs rfl rfl)))) | ((show Wl _ _ _ _ _ _ _ (⟨_, .call ⟨.value (.func 41), _, _⟩, _, _, _, _⟩ :: _) _ _); refine wl_call0 rfl rfl has41 rfl (fun w hs => c1 hs) ?_) | ((show Wl _ _ _ _ _ _ _ (⟨_, .call ⟨.value (.func 42), _, _⟩, _, _, _, _⟩ :: _) _ _); refine wl_call0 rfl rfl has42 rfl (fun w hs => c2 hs) ?_) | apply Wl.nil | (refine Wl.skip rfl rfl ?_) | (refine wl_box rfl rfl rfl rfl ?_; intro b) | ((fail_if_success (apply Wl.chk rfl)); refine Wl.split rfl rfl ?_ ?_ <;> (intro h; try (exfalso; first | contradiction | omega | exact h rfl | exact h ⟨rfl, rfl⟩ | (simp_all; done)))) | ((fail_if_success (apply Wl.chk rfl)); refine Wl.splitB rfl rfl ?_ ?_ <;> (intro h; try (exfalso; first | contradiction | (simp_all; done))))) | (apply gQ; first | (apply Wq.ev rfl rfl; (focus (first | exact ev_move rfl | (apply gLoa; first | exact ev_load (agT rfl) rfl (by repeat (first | exact List.Mem.head _ | apply List.Mem.tail)) rfl) | (apply gFie; first | exact ev_fieldAddr0 (fldT rfl) rfl) | exact ev_assign rfl | (apply gPic; first | exact ev_pickT rfl rfl | exact ev_pickF rfl rfl) | (apply gBin; first | exact ev_eqi rfl rfl | exact ev_eqs rfl rfl))))) | ((show W _ _ _ _ _ _ _ _ _); first | apply W.seq | apply W.region | (refine W.ret1 rfl rfl ?_; intro w hs)))
  all_goals (refine ret_eq hs (congrArg Value.bool ?_); rw [cl_dec, hei, heb]; (try dsimp only at *); first | (simp [*]; done) | fail)
theorem clsOf_len (l : List Cv) : (clsOf l).length = l.length := List.length_map _
theorem clsOf_getD {l : List Cv} {j : Nat} (h : j < l.length) : (clsOf l).getD j cl0 = (l.getD j cv0).c := by
  simp [clsOf, List.getD, h]
set_option maxRecDepth 100000 in
set_option maxHeartbeats 1000000 in
theorem equalFunc_ok {M : List Nat} {w0 w : World} {R : List Ent} {v u : Value} {l m : List Cv} (hst : St M w0 w R) (hv : RdC R v l) (hu : RdC R u m) (hl : l.length ≤ 1000000) (hz : ∀ y ∈ l, y.c.is.length ≤ 1000000 ∧ y.c.bs.length ≤ 1000000) :
    Calls Tryd.prog 39 #[v, u, fnv 40] w (Give (.bool (decide (clsOf l = clsOf m))) w) := by
  have hv' := hv.ro
  have hu' := hu.ro
  obtain ⟨p, c, rfl⟩ := hv.1.len
  obtain ⟨q, d, rfl⟩ := hu.1.len
  refine give_of_W (vs := [.slice p l.length c, .slice q m.length d, fnv 40]) Tryd.func39 rfl Tryd.ntmps39 (Nat.le_of_ble_eq_true rfl) hst.reads ?_
  simp only [argL]
  by_cases hlen : l.length = m.length
  case neg =>
    repeat' (first | (apply gL; first | (apply Wl.ev rfl rfl; (focus (first | exact ev_move rfl | exact ev_assign rfl | exact ev_nei rfl rfl | (apply gCal; first | exact ev_len_slice (slT rfl) rfl)))) | apply Wl.nil) | (apply gQ; first | (apply Wq.ev rfl rfl; (focus (first | exact ev_move rfl | exact ev_assign rfl | exact ev_nei rfl rfl | (apply gCal; first | exact ev_len_slice (slT rfl) rfl))))) | ((show W _ _ _ _ _ _ _ _ _); first | apply W.seq | apply W.region | (refine W.cond rfl ?_ ?_ <;> (intro h; try (exfalso; first | contradiction | omega | exact h rfl | exact h ⟨rfl, rfl⟩ | (simp_all; done)))) | (refine W.ret1 rfl rfl ?_; intro w hs)))
    all_goals first | exact ret_eq hs (congrArg Value.bool (decide_eq_false (fun e => hlen (by rw [← clsOf_len l, e, clsOf_len]))).symm) | (exfalso; omega)
  have hlen' : (clsOf l).length = (clsOf m).length := by rw [clsOf_len, clsOf_len, hlen]
  repeat' (first | (apply gL; first | (apply Wl.ev rfl rfl; (focus (first | exact ev_move rfl | exact ev_assign rfl | exact ev_nei rfl rfl | (apply gCal; first | exact ev_len_slice (slT rfl) rfl)))) | apply Wl.nil) | (apply gQ; first | (apply Wq.ev rfl rfl; (focus (first | exact ev_move rfl | exact ev_assign rfl | exact ev_nei rfl rfl | (apply gCal; first | exact ev_len_slice (slT rfl) rfl))))) | ((show W _ _ _ _ _ _ _ _ _); first | apply W.seq | (refine W.loop (X := Nat) (fun j => [(1, .slice q m.length d), (2, fnv 40), (15, .slice p l.length c), (16, .int .i64 (l.length : Nat)), (17, .int .i64 (j : Nat))]) (fun _ => ro R) (fun j => j ≤ l.length ∧ (clsOf l).take j = (clsOf m).take j) (fun j => l.length - j) 0 ⟨Nat.zero_le _, rfl⟩ (by repeat (first | exact SubL.nil | refine SubL.cons rfl ?_)) (List.Sublist.refl _) ?_) | apply W.region | apply W.block | apply W.skip | (refine W.cond rfl ?_ ?_ <;> (intro h; try (exfalso; first | contradiction | omega | exact h rfl | exact h ⟨rfl, rfl⟩ | (simp_all; done))))))
  rintro j ⟨hj, hall⟩
  by_cases hlt : j < l.length
  · obtain ⟨b, off, c1, arr, et, fr, wr, he, hm, hcc, hgt⟩ := hv'.1.pos (by omega)
    cases he
    obtain ⟨b2, off2, c2, arr2, et2, fr2, wr2, he2, hm2, hcc2, hgt2⟩ := hu'.1.pos (by omega)
    cases he2
    have hyl := getD_mem (d := cv0) hlt
    have hzl := getD_mem (d := cv0) (show j < m.length by omega)
    have hyv := hv'.2 _ hyl
    have hzv := hu'.2 _ hzl
    have hsz := hz _ hyl
    have hnx := take_eq_succ (d := cl0) hlen' (by rw [clsOf_len]; exact hlt) hall
    have hne := ne_of_getD (l := clsOf l) (m := clsOf m) (j := j) (d := cl0)
    rw [clsOf_getD hlt, clsOf_getD (by omega)] at hnx hne
    have g0 : ∀ (f : Nat) u, (cvC (l.getD j cv0))[f]? = some u → ∀ o, o = off + (j * 4 + f) → arr[o]? = some u := fun f u h => hgt _ _ (cvsC_get hlt h)
    have g1 : ∀ (f : Nat) u, (cvC (m.getD j cv0))[f]? = some u → ∀ o, o = off2 + (j * 4 + f) → arr2[o]? = some u := fun f u h => hgt2 _ _ (cvsC_get (by omega) h)
    obtain ⟨⟨⟨op, is, bs, tx⟩, iv, bv⟩, hy⟩ : ∃ y, l.getD j cv0 = y := ⟨_, rfl⟩
    obtain ⟨⟨⟨op', is', bs', tx'⟩, iv', bv'⟩, hz⟩ : ∃ y, m.getD j cv0 = y := ⟨_, rfl⟩
    rw [hy] at g0 hnx hne hyv hsz
    rw [hz] at g1 hnx hne hzv
    obtain ⟨pi, ci, rfl⟩ : ∃ p c, iv = .slice p is.length c := hyv.1.len
    obtain ⟨pb, cb, rfl⟩ : ∃ p c, bv = .slice p bs.length c := hyv.2.len
    obtain ⟨pi', ci', rfl⟩ : ∃ p c, iv' = .slice p is'.length c := hzv.1.len
    obtain ⟨pb', cb', rfl⟩ : ∃ p c, bv' = .slice p bs'.length c := hzv.2.len
    obtain ⟨e, he⟩ : ∃ e, decide ((⟨op, is, bs, tx⟩ : Cl) = ⟨op', is', bs', tx'⟩) = e := ⟨_, rfl⟩
    have cs : ∀ {M w0 w} {q1 q2 : Ent}, St M w0 w (q1 :: q2 :: ro R) → Calls Tryd.prog 40 #[cvV ⟨⟨op, is, bs, tx⟩, .slice pi is.length ci, .slice pb bs.length cb⟩, cvV ⟨⟨op', is', bs', tx'⟩, .slice pi' is'.length ci', .slice pb' bs'.length cb'⟩] w (Give (.bool e) w) := fun {M w0 w q1 q2} hs => by
      rw [← he]
      exact same1_ok hs (hyv.mono fun p hp => List.Mem.tail _ (List.Mem.tail _ hp)) (hzv.mono fun p hp => List.Mem.tail _ (List.Mem.tail _ hp)) hsz.1 hsz.2
    dsimp only at hnx hne
    repeat' (first | (apply gL; first | (apply Wl.ev rfl rfl; (focus (first | exact ev_move rfl | (apply gLoa; first | exact ev_loadAggAt (agT rfl) (szT rfl) rfl hm (fun i v h => g0 i v h _ (by omega)) rfl | exact ev_loadAggAt (agT rfl) (szT rfl) rfl (List.Mem.tail _ hm2) (fun i v h => g1 i v h _ (by omega)) rfl | exact ev_loadWhole (agT rfl) (szT rfl) rfl (by repeat (first | exact List.Mem.head _ | apply List.Mem.tail)) rfl) | exact ev_assign rfl | (apply gBin; first | exact ev_lti rfl rfl | exact ev_add64 rfl rfl (by omega)) | exact ev_notB rfl | (apply gIxA; first | exact ev_indexAddr (slT rfl) (szT rfl) rfl rfl (by omega))))) | ((show Wl _ _ _ _ _ _ _ (⟨_, .call ⟨.value (.tmp _), _, _⟩, _, _, _, _⟩ :: _) _ _); refine wl_callF rfl rfl has40 rfl rfl (fun w hs => cs hs) ?_) | apply Wl.nil | (refine wl_alloc rfl rfl (zeroT rfl) ?_; intro b) | (refine wl_storeWhole rfl rfl rfl (szT rfl) rfl (by repeat (first | exact Upd.here | apply Upd.there)) (by rfl) ?_)) | (apply gQ; first | (apply Wq.ev rfl rfl; (focus (first | exact ev_move rfl | (apply gLoa; first | exact ev_loadAggAt (agT rfl) (szT rfl) rfl hm (fun i v h => g0 i v h _ (by omega)) rfl | exact ev_loadAggAt (agT rfl) (szT rfl) rfl (List.Mem.tail _ hm2) (fun i v h => g1 i v h _ (by omega)) rfl | exact ev_loadWhole (agT rfl) (szT rfl) rfl (by repeat (first | exact List.Mem.head _ | apply List.Mem.tail)) rfl) | exact ev_assign rfl | (apply gBin; first | exact ev_lti rfl rfl | exact ev_add64 rfl rfl (by omega)) | exact ev_notB rfl | (apply gIxA; first | exact ev_indexAddr (slT rfl) (szT rfl) rfl rfl (by omega)))))) | ((show W _ _ _ _ _ _ _ _ _); first | apply W.seq | apply W.region | apply W.block | apply W.blk | apply W.skip | (refine W.cond rfl ?_ ?_ <;> (intro h; try (exfalso; first | contradiction | omega | exact h rfl | exact h ⟨rfl, rfl⟩ | (simp_all; done)))) | (refine W.condB rfl ?_ ?_ <;> (intro h; try (exfalso; first | contradiction | (simp_all; done)))) | (refine W.ret1 rfl rfl ?_; intro w hs)))
    all_goals first
      | exact W.again (j + 1) ⟨hlt, hnx (of_decide_eq_true (by rw [he]; simp_all))⟩ (by omega) (by repeat (first | exact SubL.nil | refine SubL.cons rfl ?_)) (by repeat (first | exact SubH.nil | apply SubH.keep | apply SubH.drop | exact List.Sublist.refl _ | exact List.sublist_append_left _ _))
      | exact ret_eq hs (congrArg Value.bool (decide_eq_false (hne (of_decide_eq_false (by rw [he]; simp_all)))).symm)
      | fail
  · obtain rfl : j = l.length := by omega
    rw [← clsOf_len l, List.take_length, hlen', List.take_length] at hall
    repeat' (first | (apply gL; first | (apply Wl.ev rfl rfl; (focus (first | exact ev_assign rfl | exact ev_lti rfl rfl))) | apply Wl.nil) | (apply gQ; first | (apply Wq.ev rfl rfl; (focus (first | exact ev_assign rfl | exact ev_lti rfl rfl)))) | ((show W _ _ _ _ _ _ _ _ _); first | apply W.seq | apply W.region | (refine W.exit rfl ?_) | (refine W.cond rfl ?_ ?_ <;> (intro h; try (exfalso; first | contradiction | omega | exact h rfl | exact h ⟨rfl, rfl⟩ | (simp_all; done)))) | (refine W.ret1 rfl rfl ?_; intro w hs)))
    all_goals exact ret_eq hs (congrArg Value.bool (decide_eq_true hall).symm)
theorem sc_dec (a a' b b' : Int) (c c' : List Cl) : decide ((⟨a, b, c⟩ : Sc) = ⟨a', b', c'⟩) = (decide (a = a') && decide (b = b') && decide (c = c')) := by
  rw [Bool.eq_iff_iff]
  simp only [decide_eq_true_eq, Bool.and_eq_true, Sc.mk.injEq]
  exact ⟨fun ⟨h1, h2, h3⟩ => ⟨⟨h1, h2⟩, h3⟩, fun ⟨⟨h1, h2⟩, h3⟩ => ⟨h1, h2, h3⟩⟩
set_option maxRecDepth 100000 in
theorem sameP_ok {M : List Nat} {w0 w : World} {R : List Ent} {sw sh sw' sh' : Int} {cv cv' : Value} {l m : List Cv} (hst : St M w0 w R) (hv : RdC R cv l) (hu : RdC R cv' m) (hl : l.length ≤ 1000000) (hz : ∀ y ∈ l, y.c.is.length ≤ 1000000 ∧ y.c.bs.length ≤ 1000000) :
    Calls Tryd.prog 19 #[scV sw sh cv, scV sw' sh' cv'] w (Give (.bool (decide ((⟨sw, sh, clsOf l⟩ : Sc) = ⟨sw', sh', clsOf m⟩))) w) := by
  have hv' := hv.ro
  have hu' := hu.ro
  obtain ⟨p, c, rfl⟩ := hv.1.len
  obtain ⟨q, d, rfl⟩ := hu.1.len
  refine give_of_W (vs := [scV sw sh (.slice p l.length c), scV sw' sh' (.slice q m.length d)]) Tryd.func19 rfl Tryd.ntmps19 (Nat.le_of_ble_eq_true rfl) hst.reads ?_
  simp only [argL]
  obtain ⟨e, he⟩ : ∃ e, decide (clsOf l = clsOf m) = e := ⟨_, rfl⟩
  have cs : ∀ {M w0 w} {q1 q2 : Ent}, St M w0 w (q1 :: q2 :: ro R) → Calls Tryd.prog 39 #[.slice p l.length c, .slice q m.length d, fnv 40] w (Give (.bool e) w) := fun {M w0 w q1 q2} hs => by
    rw [← he]
    exact equalFunc_ok hs (hv'.mono fun p hp => List.Mem.tail _ (List.Mem.tail _ hp)) (hu'.mono fun p hp => List.Mem.tail _ (List.Mem.tail _ hp)) hl hz
  repeat' (first | (apply gL; first | (apply Wl.ev rfl rfl; (focus (first | exact ev_move rfl | (apply gLoa; first | exact ev_load (agT rfl) rfl (by repeat (first | exact List.Mem.head _ | apply List.Mem.tail)) rfl) | (apply gFie; first | exact ev_fieldAddr0 (fldT rfl) rfl) | exact ev_assign rfl | (apply gPic; first | exact ev_pickT rfl rfl | exact ev_pickF rfl rfl) | exact ev_eqi rfl rfl))) | ((show Wl _ _ _ _ _ _ _ (⟨_, .call ⟨.value (.func 39), _, _⟩, _, _, _, _⟩ :: _) _ _); refine wl_call0 rfl rfl has39 rfl (fun w hs => cs hs) ?_) | apply Wl.nil | (refine Wl.skip rfl rfl ?_) | (refine wl_box rfl rfl rfl rfl ?_; intro b) | ((fail_if_success (apply Wl.chk rfl)); refine Wl.split rfl rfl ?_ ?_ <;> (intro h; try (exfalso; first | contradiction | omega | exact h rfl | exact h ⟨rfl, rfl⟩ | (simp_all; done))))) | (apply gQ; first | (apply Wq.ev rfl rfl; (focus (first | exact ev_move rfl | (apply gLoa; first | exact ev_load (agT rfl) rfl (by repeat (first | exact List.Mem.head _ | apply List.Mem.tail)) rfl) | (apply gFie; first | exact ev_fieldAddr0 (fldT rfl) rfl) | exact ev_assign rfl | (apply gPic; first | exact ev_pickT rfl rfl | exact ev_pickF rfl rfl) | exact ev_eqi rfl rfl)))) | ((show W _ _ _ _ _ _ _ _ _); first | apply W.seq | apply W.region | (refine W.ret1 rfl rfl ?_; intro w hs)))
  all_goals (refine ret_eq hs (congrArg Value.bool ?_); rw [sc_dec, he]; (try dsimp only at *); first | (simp [*]; done) | fail)
end Go.Proofs.YtdnicbbandbdbaaDoor
