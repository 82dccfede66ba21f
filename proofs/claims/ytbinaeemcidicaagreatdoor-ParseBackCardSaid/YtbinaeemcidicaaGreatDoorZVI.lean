/- Walks: the printer: statements. No condition. -/
import Derived.Test.YtbinaeemcidicaaGreatDoorZVH
set_option maxRecDepth 100000
set_option maxHeartbeats 16000000
namespace Go.Proofs.YtbinaeemcidicaaGreatDoor
open Go.PB Go.RowKit
attribute [local irreducible] Go.Calls
theorem flat_next {K : List (List (List UInt8))} {j : Nat} (h : j < K.length) : (K.take (j + 1)).flatten = (K.take j).flatten ++ K.getD j [] := by
 rw [List.take_succ_eq_append_getElem h, List.flatten_append]
 simp [List.getD, h]
theorem flat_le {s : PS} {K : List (List (List UInt8))} (j : Nat) : (putsS s (K.take j).flatten).1.length ≤ (putsS s K.flatten).1.length := by
 conv => rhs; rw [← List.take_append_drop j K, List.flatten_append, putsS_app]
 exact putsS_le _ _
section
variable {lv kv : Value} {pb : Nat} {R : List Ent} {kd nm pl : Int} {ty tx : List UInt8} {a b c : Int} {t0 t1 t2 : List (List UInt8)}
theorem stm_if2 (hv : RdX R kv 2 [.int .i64 a, .int .i64 b]) (hk : kd = 7) (h0 : LayI lv pb R a t0) (h1 : LayI lv pb R b t1) : StmI lv pb R (ndL kd ty tx nm kv pl) ([[105, 102], [40]] ++ (t0 ++ ([[41]] ++ t1))) := by
 intro M w0 w A s o hst hR hok hb
 simp only [putsS_app] at hb ⊢
 (refine Zcz ?_; simp only [argL])
 obtain ⟨b, off, c, arr, et, fr, wr, rfl, hmm, hcc, hgt⟩ := hv.pos Zf6
 have hmA := hR _ hmm
 subst hk
 repeat' (first | (apply gL; first | (apply Wl.ev rfl rfl; exact Zl) | (refine lC 12 33 ?_; refine wl_callS rfl rfl has33 rfl Zl2 ?_; intro oq hoq) | (refine lC 18 17 ?_; refine wl_callS rfl rfl has17 rfl Zjl ?_; intro oq hoq) | (refine lC 21 33 ?_; refine wl_callS rfl rfl has33 rfl Zi2 ?_; intro oq hoq) | (refine lC 27 17 ?_; refine wl_callS rfl rfl has17 rfl Zkk ?_; intro oq hoq) | apply Wl.nil | (refine Zc4 ?_; intro b) | (apply wl_buildSlice rfl rfl (slT rfl) (szT rfl) (zeroT rfl) rfl Zf6 rfl; exact Zt; intro b)) | (apply gQ; first | (apply Wq.ev rfl rfl; exact Zl)) | (apply lW; first | apply W.seq | apply W.region | apply W.block | apply W.skip | (refine Zbk ?_) | (refine Zbg ?_) | (refine W.ret0 rfl ?_; intro w hs)))
 all_goals first | exact GivesS.of hst hs _ Zf5 rfl Ze | contradiction | exact Zy
theorem stm_if3 (hv : RdX R kv 3 [.int .i64 a, .int .i64 b, .int .i64 c]) (hk : kd = 7) (h0 : LayI lv pb R a t0) (h1 : LayI lv pb R b t1) (h2 : LayI lv pb R c t2) :
  StmI lv pb R (ndL kd ty tx nm kv pl) ([[105, 102], [40]] ++ (t0 ++ ([[41]] ++ (t1 ++ ([[101, 108, 115, 101]] ++ t2))))) := by
 intro M w0 w A s o hst hR hok hb
 simp only [putsS_app] at hb ⊢
 (refine Zcz ?_; simp only [argL])
 obtain ⟨b, off, c, arr, et, fr, wr, rfl, hmm, hcc, hgt⟩ := hv.pos Zf6
 have hmA := hR _ hmm
 subst hk
 repeat' (first | (apply gL; first | (apply Wl.ev rfl rfl; exact Zl) | (refine lC 12 33 ?_; refine wl_callS rfl rfl has33 rfl Zl2 ?_; intro oq hoq) | (refine lC 18 17 ?_; refine wl_callS rfl rfl has17 rfl Zjl ?_; intro oq hoq) | (refine lC 21 33 ?_; refine wl_callS rfl rfl has33 rfl Zi2 ?_; intro oq hoq) | (refine lC 27 17 ?_; refine wl_callS rfl rfl has17 rfl Zkk ?_; intro oq hoq) | (refine lC 34 33 ?_; refine wl_callS rfl rfl has33 rfl (fun w hs => put_at (ss := [[101, 108, 115, 101]]) hs Zs Zd rfl Zf5 Zv Zi (Nat.le_of_ble_eq_true rfl)) ?_; intro oq hoq) | (refine lC 40 17 ?_; refine wl_callS rfl rfl has17 rfl Zl5 ?_; intro oq hoq) | apply Wl.nil | (refine Zc4 ?_; intro b) | (apply wl_buildSlice rfl rfl (slT rfl) (szT rfl) (zeroT rfl) rfl Zf6 rfl; exact Zt; intro b)) | (apply gQ; first | (apply Wq.ev rfl rfl; exact Zl)) | (apply lW; first | apply W.seq | apply W.region | apply W.block | (refine Zbk ?_) | (refine W.ret0 rfl ?_; intro w hs)))
 all_goals first | exact GivesS.of hst hs _ Zf5 rfl Ze | contradiction | exact Zy
theorem stm_for {l : List Nv} (hT : RdT R lv l) (hpow : PowE R) {i j : Nat} {x y : Int} (hv : RdX R kv 3 [.int .i64 (i : Nat), .int .i64 (j : Nat), .int .i64 c]) (hk : kd = 8) (htx : 0 < tx.length) (hi : i < l.length) (hj : j < l.length) (hx : (l.getD i nv0).nd.nm = x) (hy : (l.getD j nv0).nd.nm = y)
  (hxr : -2147483648 < x ∧ x ≤ 2147483647) (hyr : -2147483648 < y ∧ y ≤ 2147483647) (h2 : LayI lv pb R c t2) :
  StmI lv pb R (ndL kd ty tx nm kv pl) ([[102, 111, 114], [40], [105, 110, 116], tx, [61]] ++ (wholeT' x ++ ([[59], tx, [60]] ++ (wholeT' y ++ ([[59], tx, [43, 43], [41]] ++ t2))))) := by
 intro M w0 w A s o hst hR hok hb
 have hwx := whole_ok' (lv := lv) (pb := pb) hpow hxr
 have hwy := whole_ok' (lv := lv) (pb := pb) hpow hyr
 obtain ⟨xs, hxs⟩ : ∃ ts, wholeT' x = ts := ⟨_, rfl⟩
 obtain ⟨ys, hys⟩ : ∃ ts, wholeT' y = ts := ⟨_, rfl⟩
 rw [hxs] at hwx hb ⊢
 rw [hys] at hwy hb ⊢
 simp only [putsS_app] at hb ⊢
 obtain ⟨tb, toff, tc, tarr, tet, tfr, twr, hlv, htm, htc, htg⟩ := hT.1.pos Zf7
 have htA := hR _ htm
 have ga : ∀ o, o = toff + i * 6 + 3 → tarr[o]? = some (.int .i32 x) := fun o ho => nv_cell htg (f := 3) hi rfl (by rw [← hx]; rfl) Zf7
 have gb : ∀ o, o = toff + j * 6 + 3 → tarr[o]? = some (.int .i32 y) := fun o ho => nv_cell htg (f := 3) hj rfl (by rw [← hy]; rfl) Zf7
 (refine Zcz ?_; simp only [argL])
 obtain ⟨b, off, c, arr, et, fr, wr, rfl, hmm, hcc, hgt⟩ := hv.pos Zf6
 have hmA := hR _ hmm
 subst hk hlv
 repeat' (first | (apply gL; first | (apply Wl.ev rfl rfl; exact Zje) | (refine lC 47 33 ?_; refine wl_callS rfl rfl has33 rfl (fun w hs => put_at (ss := [[102, 111, 114], [40], [105, 110, 116], tx, [61]]) hs Zs Zd rfl Zf5 Zv Zi (Nat.le_of_ble_eq_true rfl)) ?_; intro oq hoq) | (refine lC 60 66 ?_; refine wl_callS rfl rfl has66 rfl (fun w hs => pr_at (hwx) hs Zs Zf5 Zf5 Zi) ?_; intro oq hoq) | (refine lC 65 33 ?_; refine wl_callS rfl rfl has33 rfl (fun w hs => put_at (ss := [[59], tx, [60]]) hs Zs Zd rfl Zf5 Zv Zi (Nat.le_of_ble_eq_true rfl)) ?_; intro oq hoq) | (refine lC 78 66 ?_; refine wl_callS rfl rfl has66 rfl (fun w hs => pr_at (hwy) hs Zs Zf5 Zf5 Zi) ?_; intro oq hoq) | (refine lC 83 33 ?_; refine wl_callS rfl rfl has33 rfl (fun w hs => put_at (ss := [[59], tx, [43, 43], [41]]) hs Zs Zd rfl Zf5 Zv Zi (Nat.le_of_ble_eq_true rfl)) ?_; intro oq hoq) | (refine lC 89 17 ?_; refine wl_callS rfl rfl has17 rfl Zl5 ?_; intro oq hoq) | apply Wl.nil | (refine Zc4 ?_; intro b) | (apply wl_buildSlice rfl rfl (slT rfl) (szT rfl) (zeroT rfl) rfl Zf6 rfl; exact Zt; intro b)) | (apply gQ; first | (apply Wq.ev rfl rfl; exact Zje) | ((show Wq _ _ (Qt _ _ _ _) _ _ _ _ [] _ _); apply Wq.tail)) | (apply lW; first | apply W.seq | ((show W _ _ _ _ _ _ (.inl (.region 12 _ true) :: _) _ _); refine W.regionT 12 mixed Zj rfl rfl ?_) | ((show W _ _ _ _ _ _ (.inl (.region 14 _ true) :: _) _ _); refine W.regionT 12 mixed Zj rfl rfl ?_) | apply W.region | apply W.block | (refine Zbk ?_) | (refine Zbg ?_) | (refine W.ret0 rfl ?_; intro w hs)))
 all_goals first | exact GivesS.of hst hs _ Zf5 rfl Ze | contradiction | exact Zy
end
section
variable {lv kv : Value} {pb : Nat} {R : List Ent} {kd nm pl : Int} {ty tx : List UInt8} {ks : List Int} {K : List (List (List UInt8))}
theorem stm_more {pre : List (List UInt8)} (hk : (kd = 9 ∧ pre = [[114, 101, 116, 117, 114, 110]]) ∨ (kd = 10 ∧ pre = [[100, 105, 115, 99, 97, 114, 100]]) ∨ (kd = 11 ∧ pre = []) ∨ (kd = 12 ∧ pre = [])) (hv : RdX R kv ks.length (intV ks)) (hl : K.length = ks.length) (hK : ∀ j, j < ks.length → LayI lv pb R (ks.getD j 0) (K.getD j [])) (h63 : ks.length ≤ 1000000) :
  StmI lv pb R (ndL kd ty tx nm kv pl) (pre ++ (K.flatten ++ [[59]])) := by
 intro M w0 w A s o hst hR hok hb
 obtain ⟨q, c, rfl⟩ := hv.len
 simp only [putsS_app] at hb ⊢
 obtain ⟨kv, hkv⟩ : ∃ kv, Value.slice q ks.length c = kv := ⟨_, rfl⟩
 rw [hkv]
 (refine Zcz ?_; simp only [argL])
 subst hkv
 have hb0 := hb
 rcases hk with ⟨rfl, hp⟩ | ⟨rfl, hp⟩ | ⟨rfl, hp⟩ | ⟨rfl, hp⟩
 case inl =>
  rw [hp] at hb
  repeat' (first | (apply gL; first | (apply Wl.ev rfl rfl; exact Zev) | (refine lC 94 33 ?_; refine wl_callS rfl rfl has33 rfl (fun w hs => put_at (ss := [[114, 101, 116, 117, 114, 110]]) hs Zs Zd rfl Zf5 Zv Zi (Nat.le_of_ble_eq_true rfl)) ?_; intro oq hoq) | apply Wl.nil | (refine Zc4 ?_; intro b) | (apply wl_buildSlice rfl rfl (slT rfl) (szT rfl) (zeroT rfl) rfl Zf6 rfl; exact Zt; intro b)) | (apply gQ; first | (apply Wq.ev rfl rfl; exact Zev)) | (apply lW; first | apply W.seq | ((show W _ _ _ _ _ _ (.inl (.loop _) :: _) _ _); first | refine W.loop (X := Nat × Ow) (fun x => [(0, ptr pb), (101, .slice q ks.length c), (102, .int .i64 (ks.length : Nat)), (103, .int .i64 (x.1 : Nat))]) (fun x => prH lv pb (putsS (putsS s pre) (K.take x.1).flatten) x.2 A) (fun x => x.1 ≤ ks.length ∧ ownOk (putsS (putsS s pre) (K.take x.1).flatten).1.length 1 (bytV (putsS (putsS s pre) (K.take x.1).flatten).1) x.2) (fun x => ks.length - x.1) (0, oq) ⟨Nat.zero_le _, by rw [hp]; exact hoq⟩ Zn Zg2 ?_ | refine W.loop (X := Nat × Ow) (fun x => [(0, ptr pb), (101, .slice q ks.length c), (102, .int .i64 (ks.length : Nat)), (103, .int .i64 (x.1 : Nat))]) (fun x => prH lv pb (putsS (putsS s pre) (K.take x.1).flatten) x.2 A) (fun x => x.1 ≤ ks.length ∧ ownOk (putsS (putsS s pre) (K.take x.1).flatten).1.length 1 (bytV (putsS (putsS s pre) (K.take x.1).flatten).1) x.2) (fun x => ks.length - x.1) (0, o) ⟨Nat.zero_le _, by rw [hp]; exact hok⟩ Zn Zg2 ?_) | apply W.region | apply W.block | apply W.blk | (refine Zbk ?_) | (refine Zbg ?_)))
  all_goals first | contradiction | skip
  rintro ⟨j, o⟩ ⟨hj, hok⟩
  dsimp only at hj hok ⊢
  by_cases hlt : j < ks.length
  ·obtain ⟨kb, koff, kc, karr, ket, kfr, kwr, he, hmm, hcc, hgt⟩ := hv.pos Zf7
   cases he
   have hmA := hR _ hmm
   obtain ⟨k, hkj⟩ : ∃ k, ks.getD j 0 = k := ⟨_, rfl⟩
   have hkid := hK j hlt
   rw [hkj] at hkid
   have g0 : ∀ o, o = koff + j → karr[o]? = some (.int .i64 k) := fun o e => by
    rw [e]
    exact hgt j _ Zdi _ rfl
   have hb1 : (putsS (putsS s pre) (K.take (j + 1)).flatten).1.length ≤ 1000000000 := Nat.le_trans (flat_le (j + 1)) (Nat.le_trans (putsS_le _ _) hb0)
   have hnx : putsS (putsS s pre) (K.take (j + 1)).flatten = putsS (putsS (putsS s pre) (K.take j).flatten) (K.getD j []) := by rw [flat_next Zf7, putsS_app]
   rw [hnx] at hb1
   clear hb hb0
   have hb := hb1
   repeat' (first | (apply gL; first | (apply Wl.ev rfl rfl; exact Zx) | (refine lC 109 17 ?_; refine wl_callS rfl rfl has17 rfl Zi9 ?_; intro oq hoq) | apply Wl.nil) | (apply gQ; first | (apply Wq.ev rfl rfl; exact Zx)) | (apply lW; first | apply W.seq | apply W.region | apply W.block | apply W.blk | apply W.skip | (refine Zz ?_ ?_ <;> (intro h; try exact Za))))
   all_goals first | exact W.again (j + 1, oq) (show j + 1 ≤ ks.length ∧ ownOk (putsS (putsS s pre) (K.take (j + 1)).flatten).1.length 1 (bytV (putsS (putsS s pre) (K.take (j + 1)).flatten).1) oq from ⟨by omega, by rw [hnx]; assumption⟩) (show ks.length - (j + 1) < ks.length - j by omega) Zn Zgz | contradiction | exact Zy
  ·have hall : K.take j = K := List.take_of_length_le Zf7
   rw [hall] at hok ⊢
   clear hb
   have hb := hb0
   repeat' (first | (apply gL; first | (apply Wl.ev rfl rfl; exact Zev) | (refine lC 113 33 ?_; refine wl_callS rfl rfl has33 rfl Zio ?_; intro oq hoq) | apply Wl.nil | (apply wl_buildSlice rfl rfl (slT rfl) (szT rfl) (zeroT rfl) rfl Zf6 rfl; exact Zt; intro b)) | (apply gQ; first | (apply Wq.ev rfl rfl; exact Zev)) | (apply lW; first | apply W.seq | apply W.region | (refine Zcm ?_) | (refine Zz ?_ ?_ <;> (intro h; try exact Za)) | (refine Zdl ?_; intro w hs)))
   all_goals first | exact GivesS.of hst hs _ Zf5 rfl Ze | contradiction | exact Zy
 case inr.inl =>
  rw [hp] at hb
  repeat' (first | (apply gL; first | (apply Wl.ev rfl rfl; exact Zev) | (refine lC 99 33 ?_; refine wl_callS rfl rfl has33 rfl (fun w hs => put_at (ss := [[100, 105, 115, 99, 97, 114, 100]]) hs Zs Zd rfl Zf5 Zv Zi (Nat.le_of_ble_eq_true rfl)) ?_; intro oq hoq) | apply Wl.nil | (refine Zc4 ?_; intro b) | (apply wl_buildSlice rfl rfl (slT rfl) (szT rfl) (zeroT rfl) rfl Zf6 rfl; exact Zt; intro b)) | (apply gQ; first | (apply Wq.ev rfl rfl; exact Zev)) | (apply lW; first | apply W.seq | ((show W _ _ _ _ _ _ (.inl (.loop _) :: _) _ _); first | refine W.loop (X := Nat × Ow) (fun x => [(0, ptr pb), (101, .slice q ks.length c), (102, .int .i64 (ks.length : Nat)), (103, .int .i64 (x.1 : Nat))]) (fun x => prH lv pb (putsS (putsS s pre) (K.take x.1).flatten) x.2 A) (fun x => x.1 ≤ ks.length ∧ ownOk (putsS (putsS s pre) (K.take x.1).flatten).1.length 1 (bytV (putsS (putsS s pre) (K.take x.1).flatten).1) x.2) (fun x => ks.length - x.1) (0, oq) ⟨Nat.zero_le _, by rw [hp]; exact hoq⟩ Zn Zg2 ?_ | refine W.loop (X := Nat × Ow) (fun x => [(0, ptr pb), (101, .slice q ks.length c), (102, .int .i64 (ks.length : Nat)), (103, .int .i64 (x.1 : Nat))]) (fun x => prH lv pb (putsS (putsS s pre) (K.take x.1).flatten) x.2 A) (fun x => x.1 ≤ ks.length ∧ ownOk (putsS (putsS s pre) (K.take x.1).flatten).1.length 1 (bytV (putsS (putsS s pre) (K.take x.1).flatten).1) x.2) (fun x => ks.length - x.1) (0, o) ⟨Nat.zero_le _, by rw [hp]; exact hok⟩ Zn Zg2 ?_) | apply W.region | apply W.block | apply W.blk | (refine Zbk ?_) | (refine Zbg ?_)))
  all_goals first | contradiction | skip
  rintro ⟨j, o⟩ ⟨hj, hok⟩
  dsimp only at hj hok ⊢
  by_cases hlt : j < ks.length
  ·obtain ⟨kb, koff, kc, karr, ket, kfr, kwr, he, hmm, hcc, hgt⟩ := hv.pos Zf7
   cases he
   have hmA := hR _ hmm
   obtain ⟨k, hkj⟩ : ∃ k, ks.getD j 0 = k := ⟨_, rfl⟩
   have hkid := hK j hlt
   rw [hkj] at hkid
   have g0 : ∀ o, o = koff + j → karr[o]? = some (.int .i64 k) := fun o e => by
    rw [e]
    exact hgt j _ Zdi _ rfl
   have hb1 : (putsS (putsS s pre) (K.take (j + 1)).flatten).1.length ≤ 1000000000 := Nat.le_trans (flat_le (j + 1)) (Nat.le_trans (putsS_le _ _) hb0)
   have hnx : putsS (putsS s pre) (K.take (j + 1)).flatten = putsS (putsS (putsS s pre) (K.take j).flatten) (K.getD j []) := by rw [flat_next Zf7, putsS_app]
   rw [hnx] at hb1
   clear hb hb0
   have hb := hb1
   repeat' (first | (apply gL; first | (apply Wl.ev rfl rfl; exact Zx) | (refine lC 109 17 ?_; refine wl_callS rfl rfl has17 rfl Zi9 ?_; intro oq hoq) | apply Wl.nil) | (apply gQ; first | (apply Wq.ev rfl rfl; exact Zx)) | (apply lW; first | apply W.seq | apply W.region | apply W.block | apply W.blk | apply W.skip | (refine Zz ?_ ?_ <;> (intro h; try exact Za))))
   all_goals first | exact W.again (j + 1, oq) (show j + 1 ≤ ks.length ∧ ownOk (putsS (putsS s pre) (K.take (j + 1)).flatten).1.length 1 (bytV (putsS (putsS s pre) (K.take (j + 1)).flatten).1) oq from ⟨by omega, by rw [hnx]; assumption⟩) (show ks.length - (j + 1) < ks.length - j by omega) Zn Zgz | contradiction | exact Zy
  ·have hall : K.take j = K := List.take_of_length_le Zf7
   rw [hall] at hok ⊢
   clear hb
   have hb := hb0
   repeat' (first | (apply gL; first | (apply Wl.ev rfl rfl; exact Zev) | (refine lC 113 33 ?_; refine wl_callS rfl rfl has33 rfl Zio ?_; intro oq hoq) | apply Wl.nil | (apply wl_buildSlice rfl rfl (slT rfl) (szT rfl) (zeroT rfl) rfl Zf6 rfl; exact Zt; intro b)) | (apply gQ; first | (apply Wq.ev rfl rfl; exact Zev)) | (apply lW; first | apply W.seq | apply W.region | (refine Zcm ?_) | (refine Zz ?_ ?_ <;> (intro h; try exact Za)) | (refine Zdl ?_; intro w hs)))
   all_goals first | exact GivesS.of hst hs _ Zf5 rfl Ze | contradiction | exact Zy
 case inr.inr.inl =>
  repeat' (first | (apply gL; first | (apply Wl.ev rfl rfl; exact Zev) | apply Wl.nil | (refine Zc4 ?_; intro b)) | (apply gQ; first | (apply Wq.ev rfl rfl; exact Zev)) | (apply lW; first | apply W.seq | ((show W _ _ _ _ _ _ (.inl (.loop _) :: _) _ _); first | refine W.loop (X := Nat × Ow) (fun x => [(0, ptr pb), (101, .slice q ks.length c), (102, .int .i64 (ks.length : Nat)), (103, .int .i64 (x.1 : Nat))]) (fun x => prH lv pb (putsS (putsS s pre) (K.take x.1).flatten) x.2 A) (fun x => x.1 ≤ ks.length ∧ ownOk (putsS (putsS s pre) (K.take x.1).flatten).1.length 1 (bytV (putsS (putsS s pre) (K.take x.1).flatten).1) x.2) (fun x => ks.length - x.1) (0, oq) ⟨Nat.zero_le _, by rw [hp]; exact hoq⟩ Zn Zg2 ?_ | refine W.loop (X := Nat × Ow) (fun x => [(0, ptr pb), (101, .slice q ks.length c), (102, .int .i64 (ks.length : Nat)), (103, .int .i64 (x.1 : Nat))]) (fun x => prH lv pb (putsS (putsS s pre) (K.take x.1).flatten) x.2 A) (fun x => x.1 ≤ ks.length ∧ ownOk (putsS (putsS s pre) (K.take x.1).flatten).1.length 1 (bytV (putsS (putsS s pre) (K.take x.1).flatten).1) x.2) (fun x => ks.length - x.1) (0, o) ⟨Nat.zero_le _, by rw [hp]; exact hok⟩ Zn Zg2 ?_) | apply W.region | apply W.block | apply W.blk | apply W.skip | (refine Zbg ?_)))
  all_goals first | contradiction | skip
  rintro ⟨j, o⟩ ⟨hj, hok⟩
  dsimp only at hj hok ⊢
  by_cases hlt : j < ks.length
  ·obtain ⟨kb, koff, kc, karr, ket, kfr, kwr, he, hmm, hcc, hgt⟩ := hv.pos Zf7
   cases he
   have hmA := hR _ hmm
   obtain ⟨k, hkj⟩ : ∃ k, ks.getD j 0 = k := ⟨_, rfl⟩
   have hkid := hK j hlt
   rw [hkj] at hkid
   have g0 : ∀ o, o = koff + j → karr[o]? = some (.int .i64 k) := fun o e => by
    rw [e]
    exact hgt j _ Zdi _ rfl
   have hb1 : (putsS (putsS s pre) (K.take (j + 1)).flatten).1.length ≤ 1000000000 := Nat.le_trans (flat_le (j + 1)) (Nat.le_trans (putsS_le _ _) hb0)
   have hnx : putsS (putsS s pre) (K.take (j + 1)).flatten = putsS (putsS (putsS s pre) (K.take j).flatten) (K.getD j []) := by rw [flat_next Zf7, putsS_app]
   rw [hnx] at hb1
   clear hb hb0
   have hb := hb1
   repeat' (first | (apply gL; first | (apply Wl.ev rfl rfl; exact Zx) | (refine lC 109 17 ?_; refine wl_callS rfl rfl has17 rfl Zi9 ?_; intro oq hoq) | apply Wl.nil) | (apply gQ; first | (apply Wq.ev rfl rfl; exact Zx)) | (apply lW; first | apply W.seq | apply W.region | apply W.block | apply W.blk | apply W.skip | (refine Zz ?_ ?_ <;> (intro h; try exact Za))))
   all_goals first | exact W.again (j + 1, oq) (show j + 1 ≤ ks.length ∧ ownOk (putsS (putsS s pre) (K.take (j + 1)).flatten).1.length 1 (bytV (putsS (putsS s pre) (K.take (j + 1)).flatten).1) oq from ⟨by omega, by rw [hnx]; assumption⟩) (show ks.length - (j + 1) < ks.length - j by omega) Zn Zgz | contradiction | exact Zy
  ·have hall : K.take j = K := List.take_of_length_le Zf7
   rw [hall] at hok ⊢
   clear hb
   have hb := hb0
   repeat' (first | (apply gL; first | (apply Wl.ev rfl rfl; exact Zev) | (refine lC 113 33 ?_; refine wl_callS rfl rfl has33 rfl Zio ?_; intro oq hoq) | apply Wl.nil | (apply wl_buildSlice rfl rfl (slT rfl) (szT rfl) (zeroT rfl) rfl Zf6 rfl; exact Zt; intro b)) | (apply gQ; first | (apply Wq.ev rfl rfl; exact Zev)) | (apply lW; first | apply W.seq | apply W.region | (refine Zcm ?_) | (refine Zz ?_ ?_ <;> (intro h; try exact Za)) | (refine Zdl ?_; intro w hs)))
   all_goals first | exact GivesS.of hst hs _ Zf5 rfl Ze | contradiction | exact Zy
 case inr.inr.inr =>
  repeat' (first | (apply gL; first | (apply Wl.ev rfl rfl; exact Zev) | apply Wl.nil | (refine Zc4 ?_; intro b)) | (apply gQ; first | (apply Wq.ev rfl rfl; exact Zev)) | (apply lW; first | apply W.seq | ((show W _ _ _ _ _ _ (.inl (.loop _) :: _) _ _); first | refine W.loop (X := Nat × Ow) (fun x => [(0, ptr pb), (101, .slice q ks.length c), (102, .int .i64 (ks.length : Nat)), (103, .int .i64 (x.1 : Nat))]) (fun x => prH lv pb (putsS (putsS s pre) (K.take x.1).flatten) x.2 A) (fun x => x.1 ≤ ks.length ∧ ownOk (putsS (putsS s pre) (K.take x.1).flatten).1.length 1 (bytV (putsS (putsS s pre) (K.take x.1).flatten).1) x.2) (fun x => ks.length - x.1) (0, oq) ⟨Nat.zero_le _, by rw [hp]; exact hoq⟩ Zn Zg2 ?_ | refine W.loop (X := Nat × Ow) (fun x => [(0, ptr pb), (101, .slice q ks.length c), (102, .int .i64 (ks.length : Nat)), (103, .int .i64 (x.1 : Nat))]) (fun x => prH lv pb (putsS (putsS s pre) (K.take x.1).flatten) x.2 A) (fun x => x.1 ≤ ks.length ∧ ownOk (putsS (putsS s pre) (K.take x.1).flatten).1.length 1 (bytV (putsS (putsS s pre) (K.take x.1).flatten).1) x.2) (fun x => ks.length - x.1) (0, o) ⟨Nat.zero_le _, by rw [hp]; exact hok⟩ Zn Zg2 ?_) | apply W.region | apply W.block | apply W.blk | apply W.skip | (refine Zbg ?_)))
  all_goals first | contradiction | skip
  rintro ⟨j, o⟩ ⟨hj, hok⟩
  dsimp only at hj hok ⊢
  by_cases hlt : j < ks.length
  ·obtain ⟨kb, koff, kc, karr, ket, kfr, kwr, he, hmm, hcc, hgt⟩ := hv.pos Zf7
   cases he
   have hmA := hR _ hmm
   obtain ⟨k, hkj⟩ : ∃ k, ks.getD j 0 = k := ⟨_, rfl⟩
   have hkid := hK j hlt
   rw [hkj] at hkid
   have g0 : ∀ o, o = koff + j → karr[o]? = some (.int .i64 k) := fun o e => by
    rw [e]
    exact hgt j _ Zdi _ rfl
   have hb1 : (putsS (putsS s pre) (K.take (j + 1)).flatten).1.length ≤ 1000000000 := Nat.le_trans (flat_le (j + 1)) (Nat.le_trans (putsS_le _ _) hb0)
   have hnx : putsS (putsS s pre) (K.take (j + 1)).flatten = putsS (putsS (putsS s pre) (K.take j).flatten) (K.getD j []) := by rw [flat_next Zf7, putsS_app]
   rw [hnx] at hb1
   clear hb hb0
   have hb := hb1
   repeat' (first | (apply gL; first | (apply Wl.ev rfl rfl; exact Zx) | (refine lC 109 17 ?_; refine wl_callS rfl rfl has17 rfl Zi9 ?_; intro oq hoq) | apply Wl.nil) | (apply gQ; first | (apply Wq.ev rfl rfl; exact Zx)) | (apply lW; first | apply W.seq | apply W.region | apply W.block | apply W.blk | apply W.skip | (refine Zz ?_ ?_ <;> (intro h; try exact Za))))
   all_goals first | exact W.again (j + 1, oq) (show j + 1 ≤ ks.length ∧ ownOk (putsS (putsS s pre) (K.take (j + 1)).flatten).1.length 1 (bytV (putsS (putsS s pre) (K.take (j + 1)).flatten).1) oq from ⟨by omega, by rw [hnx]; assumption⟩) (show ks.length - (j + 1) < ks.length - j by omega) Zn Zgz | contradiction | exact Zy
  ·have hall : K.take j = K := List.take_of_length_le Zf7
   rw [hall] at hok ⊢
   clear hb
   have hb := hb0
   repeat' (first | (apply gL; first | (apply Wl.ev rfl rfl; exact Zev) | (refine lC 113 33 ?_; refine wl_callS rfl rfl has33 rfl Zio ?_; intro oq hoq) | apply Wl.nil | (apply wl_buildSlice rfl rfl (slT rfl) (szT rfl) (zeroT rfl) rfl Zf6 rfl; exact Zt; intro b)) | (apply gQ; first | (apply Wq.ev rfl rfl; exact Zev)) | (apply lW; first | apply W.seq | apply W.region | (refine Zcm ?_) | (refine Zz ?_ ?_ <;> (intro h; try exact Za)) | (refine Zdl ?_; intro w hs)))
   all_goals first | exact GivesS.of hst hs _ Zf5 rfl Ze | contradiction | exact Zy
end
end Go.Proofs.YtbinaeemcidicaaGreatDoor
