/- Walks: the printer's lay, a node of each kind. No condition. -/
import Derived.Test.YtbinaeemcidicaaGreatDoorZVI
import Derived.Test.YtbinaeemcidicaaGreatDoorZQP
set_option maxRecDepth 100000
set_option maxHeartbeats 16000000
namespace Go.Proofs.YtbinaeemcidicaaGreatDoor
open Go.PB Go.RowKit
attribute [local irreducible] Go.Calls
section
variable {lv kv : Value} {pb : Nat} {R : List Ent} {l : List Nv} {i : Nat} {kd nm pl : Int} {ty tx : List UInt8} {ks : List Int} {K : List (List (List UInt8))}
theorem node_at (hT : RdT R lv l) (hi : i < l.length) (hy : l.getD i nv0 = ⟨⟨kd, ty, tx, nm, ks, pl⟩, kv⟩) :
  ∃ b off c arr et fr wr, lv = .slice (some ⟨b, off, none⟩) l.length c ∧ (⟨b, wr, .cells arr et fr⟩ : Ent) ∈ R ∧ (∀ f u, (ndL kd ty tx nm kv pl)[f]? = some u → ∀ o, o = off + i * 6 + f → arr[o]? = some u) ∧ RdX R kv ks.length (intV ks) := by
 obtain ⟨b, off, c, arr, et, fr, wr, hlv, hm, hc, hg⟩ := hT.1.pos Zf7
 refine ⟨b, off, c, arr, et, fr, wr, hlv, hm, fun f u h o ho => nv_cell hg (f := f) hi hy h ho, ?_⟩
 have := hT.2 _ (getD_memN hi)
 rw [hy] at this
 exact this
theorem layI_stm (hT : RdT R lv l) (hi : i < l.length) (hy : l.getD i nv0 = ⟨⟨kd, ty, tx, nm, ks, pl⟩, kv⟩) (hk : 7 ≤ kd ∧ kd ≤ 12) {ts : List (List UInt8)} (hstm : StmI lv pb R (ndL kd ty tx nm kv pl) ts) : LayI lv pb R (i : Nat) ts := by
 intro M w0 w A s o hst hR hok hb
 (obtain ⟨tb, toff, tc, tarr, tet, tfr, twr, rfl, htm, ga, hv⟩ := node_at hT hi hy; obtain ⟨q, c, rfl⟩ := hv.len; have htA := hR _ htm)
 (refine Zb1 ?_; simp only [argL])
 repeat' (first | (apply gL; first | (apply Wl.ev rfl rfl; exact Zip) | ((show Wl _ _ _ _ _ _ _ (⟨none, .store _ (.tmp 4) (.tmp 16), _, _, _, _⟩ :: _) _ _); refine wl_storeWhole rfl rfl rfl (szT rfl) Zq Zf Zmi ?_) | (refine lC 143 35 ?_; refine wl_callS rfl rfl has35 rfl (fun w hs => pr_at (hstm) hs Zs Zf5 Zf5 Zi) ?_; intro oq hoq) | apply Wl.nil | (refine Zbd ?_; intro b)) | (apply gQ; first | (apply Wq.ev rfl rfl; exact Zip)) | (apply lW; first | apply W.seq | apply W.region | apply W.block | apply W.blk | apply W.skip | (refine Zz ?_ ?_ <;> (intro h; try exact Za)) | (refine Zdl ?_; intro w hs)))
 all_goals first | exact GivesS.of hst hs _ Zf5 rfl Ze | contradiction | exact Zy
theorem layI_exp (hT : RdT R lv l) (hi : i < l.length) (hy : l.getD i nv0 = ⟨⟨kd, ty, tx, nm, ks, pl⟩, kv⟩) (hk : 13 ≤ kd) {ts : List (List UInt8)} (hexp : ExpI lv pb R (ndL kd ty tx nm kv pl) ts) : LayI lv pb R (i : Nat) ts := by
 intro M w0 w A s o hst hR hok hb
 (obtain ⟨tb, toff, tc, tarr, tet, tfr, twr, rfl, htm, ga, hv⟩ := node_at hT hi hy; obtain ⟨q, c, rfl⟩ := hv.len; have htA := hR _ htm)
 (refine Zb1 ?_; simp only [argL])
 repeat' (first | (apply gL; first | (apply Wl.ev rfl rfl; exact Zip) | ((show Wl _ _ _ _ _ _ _ (⟨none, .store _ (.tmp 4) (.tmp 16), _, _, _, _⟩ :: _) _ _); refine wl_storeWhole rfl rfl rfl (szT rfl) Zq Zf Zmi ?_) | (refine lC 21 36 ?_; refine wl_callS rfl rfl has36 rfl (fun w hs => pr_at (hexp) hs Zs Zf5 Zf5 Zi) ?_; intro oq hoq) | apply Wl.nil | (refine Zbd ?_; intro b)) | (apply gQ; first | (apply Wq.ev rfl rfl; exact Zip)) | (apply lW; first | apply W.seq | apply W.region | apply W.block | apply W.blk | (refine Zz ?_ ?_ <;> (intro h; try exact Za)) | (refine Zdl ?_; intro w hs)))
 all_goals first | exact GivesS.of hst hs _ Zf5 rfl Ze | contradiction | exact Zy
theorem layI_sh1 (hT : RdT R lv l) (hi : i < l.length) (hy : l.getD i nv0 = ⟨⟨kd, ty, tx, nm, ks, pl⟩, kv⟩) (hk : kd = 1) (hl : K.length = ks.length) (hK : ∀ j, j < ks.length → LayI lv pb R (ks.getD j 0) (K.getD j [])) (h63 : ks.length ≤ 1000000) : LayI lv pb R (i : Nat) K.flatten := by
 intro M w0 w A s o hst hR hok hb
 (obtain ⟨tb, toff, tc, tarr, tet, tfr, twr, rfl, htm, ga, hv⟩ := node_at hT hi hy; obtain ⟨q, c, rfl⟩ := hv.len; have htA := hR _ htm)
 obtain ⟨pre, hp⟩ : ∃ pre : List (List UInt8), pre = [] := ⟨_, rfl⟩
 have e0 : putsS s K.flatten = putsS (putsS s pre) K.flatten := by rw [hp]; rfl
 rw [e0] at hb ⊢
 have hb0 := hb
 subst hk
 (refine Zb1 ?_; simp only [argL])
 repeat' (first | (apply gL; first | (apply Wl.ev rfl rfl; exact Zk9) | ((show Wl _ _ _ _ _ _ _ (⟨none, .store _ (.tmp 4) (.tmp 16), _, _, _, _⟩ :: _) _ _); refine wl_storeWhole rfl rfl rfl (szT rfl) Zq Zf Zmi ?_) | apply Wl.nil | (refine Zbd ?_; intro b)) | (apply gQ; first | (apply Wq.ev rfl rfl; exact Zk9)) | (apply lW; first | apply W.seq | ((show W _ _ _ _ _ _ (.inl (.loop _) :: _) _ _); first | refine W.loop (X := Nat × Ow) (fun x => [(0, ptr pb), (25, .slice q ks.length c), (26, .int .i64 (ks.length : Nat)), (27, .int .i64 (x.1 : Nat))]) (fun x => prH (.slice (some ⟨tb, toff, none⟩) l.length tc) pb (putsS (putsS s pre) (K.take x.1).flatten) x.2 A) (fun x => x.1 ≤ ks.length ∧ ownOk (putsS (putsS s pre) (K.take x.1).flatten).1.length 1 (bytV (putsS (putsS s pre) (K.take x.1).flatten).1) x.2) (fun x => ks.length - x.1) (0, oq) ⟨Nat.zero_le _, by rw [hp]; exact hoq⟩ Zn Zg2 ?_ | refine W.loop (X := Nat × Ow) (fun x => [(0, ptr pb), (25, .slice q ks.length c), (26, .int .i64 (ks.length : Nat)), (27, .int .i64 (x.1 : Nat))]) (fun x => prH (.slice (some ⟨tb, toff, none⟩) l.length tc) pb (putsS (putsS s pre) (K.take x.1).flatten) x.2 A) (fun x => x.1 ≤ ks.length ∧ ownOk (putsS (putsS s pre) (K.take x.1).flatten).1.length 1 (bytV (putsS (putsS s pre) (K.take x.1).flatten).1) x.2) (fun x => ks.length - x.1) (0, o) ⟨Nat.zero_le _, by rw [hp]; exact hok⟩ Zn Zg2 ?_) | apply W.region | apply W.block | (refine Zbk ?_)))
 all_goals first | contradiction | skip
 rintro ⟨j, o⟩ ⟨hj, hok⟩
 dsimp only at hj hok ⊢
 by_cases hlt : j < ks.length
 ·obtain ⟨kb, koff, kc, karr, ket, kfr, kwr, he, hmm, hcc, hgt⟩ := hv.pos Zf7
  cases he
  have hmA := hR _ hmm
  obtain ⟨k, hkj⟩ : ∃ k, ks.getD j 0 = k := ⟨_, rfl⟩
  have hkid := hK j hlt
  rw [hkj] at hkid
  have g0 : ∀ o, o = koff + j → karr[o]? = some (.int .i64 k) := fun o e => by
   rw [e]
   exact hgt j _ Zdi _ rfl
  have hb1 : (putsS (putsS s pre) (K.take (j + 1)).flatten).1.length ≤ 1000000000 := Nat.le_trans (flat_le (j + 1)) hb0
  have hnx : putsS (putsS s pre) (K.take (j + 1)).flatten = putsS (putsS (putsS s pre) (K.take j).flatten) (K.getD j []) := by rw [flat_next Zf7, putsS_app]
  rw [hnx] at hb1
  clear hb hb0
  have hb := hb1
  repeat' (first | (apply gL; first | (apply Wl.ev rfl rfl; exact Zx) | (refine lC 33 17 ?_; refine wl_callS rfl rfl has17 rfl Zi9 ?_; intro oq hoq) | apply Wl.nil) | (apply gQ; first | (apply Wq.ev rfl rfl; exact Zx)) | (apply lW; first | apply W.seq | apply W.region | apply W.block | apply W.blk | apply W.skip | (refine Zz ?_ ?_ <;> (intro h; try exact Za))))
  all_goals first | exact W.again (j + 1, oq) (show j + 1 ≤ ks.length ∧ ownOk (putsS (putsS s pre) (K.take (j + 1)).flatten).1.length 1 (bytV (putsS (putsS s pre) (K.take (j + 1)).flatten).1) oq from ⟨by omega, by rw [hnx]; assumption⟩) (show ks.length - (j + 1) < ks.length - j by omega) Zn Zha | contradiction | exact Zy
 ·have hall : K.take j = K := List.take_of_length_le Zf7
  rw [hall] at hok ⊢
  clear hb
  have hb := hb0
  repeat' (first | (apply gL; first | (apply Wl.ev rfl rfl; exact Zev) | apply Wl.nil) | (apply gQ; first | (apply Wq.ev rfl rfl; exact Zev)) | (apply lW; first | apply W.seq | apply W.region | apply W.blk | (refine Zcm ?_) | (refine Zz ?_ ?_ <;> (intro h; try exact Za)) | (refine Zdl ?_; intro w hs)))
  all_goals first | exact GivesS.of hst hs _ Zf5 rfl Ze | exact GivesS.of hst hs o hok rfl Ze | contradiction | exact Zy
theorem layI_blk6 (hT : RdT R lv l) (hi : i < l.length) (hy : l.getD i nv0 = ⟨⟨kd, ty, tx, nm, ks, pl⟩, kv⟩) (hk : kd = 6) (hl : K.length = ks.length) (hK : ∀ j, j < ks.length → LayI lv pb R (ks.getD j 0) (K.getD j [])) (h63 : ks.length ≤ 1000000) : LayI lv pb R (i : Nat) ([[123]] ++ (K.flatten ++ [[125]])) := by
 intro M w0 w A s o hst hR hok hb
 (obtain ⟨tb, toff, tc, tarr, tet, tfr, twr, rfl, htm, ga, hv⟩ := node_at hT hi hy; obtain ⟨q, c, rfl⟩ := hv.len; have htA := hR _ htm)
 obtain ⟨pre, hp⟩ : ∃ pre : List (List UInt8), pre = [[123]] := ⟨_, rfl⟩
 simp only [putsS_app] at hb ⊢
 have hb0 := hb
 rw [← hp] at hb0 ⊢
 subst hk
 (refine Zb1 ?_; simp only [argL])
 repeat' (first | (apply gL; first | (apply Wl.ev rfl rfl; exact Zla) | ((show Wl _ _ _ _ _ _ _ (⟨none, .store _ (.tmp 4) (.tmp 16), _, _, _, _⟩ :: _) _ _); refine wl_storeWhole rfl rfl rfl (szT rfl) Zq Zf Zmi ?_) | (refine lC 119 33 ?_; refine wl_callS rfl rfl has33 rfl (fun w hs => put_at (ss := [[123]]) hs Zs Zd rfl Zf5 Zv Zi (Nat.le_of_ble_eq_true rfl)) ?_; intro oq hoq) | apply Wl.nil | (refine Zbd ?_; intro b) | (apply wl_buildSlice rfl rfl (slT rfl) (szT rfl) (zeroT rfl) rfl Zf6 rfl; exact Zt; intro b)) | (apply gQ; first | (apply Wq.ev rfl rfl; exact Zla)) | (apply lW; first | apply W.seq | ((show W _ _ _ _ _ _ (.inl (.loop _) :: _) _ _); first | refine W.loop (X := Nat × Ow) (fun x => [(0, ptr pb), (121, .slice q ks.length c), (122, .int .i64 (ks.length : Nat)), (123, .int .i64 (x.1 : Nat))]) (fun x => prH (.slice (some ⟨tb, toff, none⟩) l.length tc) pb (putsS (putsS s pre) (K.take x.1).flatten) x.2 A) (fun x => x.1 ≤ ks.length ∧ ownOk (putsS (putsS s pre) (K.take x.1).flatten).1.length 1 (bytV (putsS (putsS s pre) (K.take x.1).flatten).1) x.2) (fun x => ks.length - x.1) (0, oq) ⟨Nat.zero_le _, by rw [hp]; exact hoq⟩ Zn Zg2 ?_ | refine W.loop (X := Nat × Ow) (fun x => [(0, ptr pb), (121, .slice q ks.length c), (122, .int .i64 (ks.length : Nat)), (123, .int .i64 (x.1 : Nat))]) (fun x => prH (.slice (some ⟨tb, toff, none⟩) l.length tc) pb (putsS (putsS s pre) (K.take x.1).flatten) x.2 A) (fun x => x.1 ≤ ks.length ∧ ownOk (putsS (putsS s pre) (K.take x.1).flatten).1.length 1 (bytV (putsS (putsS s pre) (K.take x.1).flatten).1) x.2) (fun x => ks.length - x.1) (0, o) ⟨Nat.zero_le _, by rw [hp]; exact hok⟩ Zn Zg2 ?_) | apply W.region | apply W.block | (refine Zbk ?_) | (refine Zbg ?_)))
 all_goals first | contradiction | skip
 rintro ⟨j, o⟩ ⟨hj, hok⟩
 dsimp only at hj hok ⊢
 by_cases hlt : j < ks.length
 ·obtain ⟨kb, koff, kc, karr, ket, kfr, kwr, he, hmm, hcc, hgt⟩ := hv.pos Zf7
  cases he
  have hmA := hR _ hmm
  obtain ⟨k, hkj⟩ : ∃ k, ks.getD j 0 = k := ⟨_, rfl⟩
  have hkid := hK j hlt
  rw [hkj] at hkid
  have g0 : ∀ o, o = koff + j → karr[o]? = some (.int .i64 k) := fun o e => by
   rw [e]
   exact hgt j _ Zdi _ rfl
  have hb1 : (putsS (putsS s pre) (K.take (j + 1)).flatten).1.length ≤ 1000000000 := Nat.le_trans (flat_le (j + 1)) (Nat.le_trans (putsS_le _ _) hb0)
  have hnx : putsS (putsS s pre) (K.take (j + 1)).flatten = putsS (putsS (putsS s pre) (K.take j).flatten) (K.getD j []) := by rw [flat_next Zf7, putsS_app]
  rw [hnx] at hb1
  clear hb hb0
  have hb := hb1
  repeat' (first | (apply gL; first | (apply Wl.ev rfl rfl; exact Zx) | (refine lC 129 17 ?_; refine wl_callS rfl rfl has17 rfl Zi9 ?_; intro oq hoq) | apply Wl.nil) | (apply gQ; first | (apply Wq.ev rfl rfl; exact Zx)) | (apply lW; first | apply W.seq | apply W.region | apply W.block | apply W.blk | apply W.skip | (refine Zz ?_ ?_ <;> (intro h; try exact Za))))
  all_goals first | exact W.again (j + 1, oq) (show j + 1 ≤ ks.length ∧ ownOk (putsS (putsS s pre) (K.take (j + 1)).flatten).1.length 1 (bytV (putsS (putsS s pre) (K.take (j + 1)).flatten).1) oq from ⟨by omega, by rw [hnx]; assumption⟩) (show ks.length - (j + 1) < ks.length - j by omega) Zn Zha | contradiction | exact Zy
 ·have hall : K.take j = K := List.take_of_length_le Zf7
  rw [hall] at hok ⊢
  clear hb
  have hb := hb0
  repeat' (first | (apply gL; first | (apply Wl.ev rfl rfl; exact Zev) | (refine lC 133 33 ?_; refine wl_callS rfl rfl has33 rfl (fun w hs => put_at (ss := [[125]]) hs Zs Zd rfl Zf5 Zv Zi (Nat.le_of_ble_eq_true rfl)) ?_; intro oq hoq) | apply Wl.nil | (apply wl_buildSlice rfl rfl (slT rfl) (szT rfl) (zeroT rfl) rfl Zf6 rfl; exact Zt; intro b)) | (apply gQ; first | (apply Wq.ev rfl rfl; exact Zev)) | (apply lW; first | apply W.seq | apply W.region | apply W.blk | (refine Zcm ?_) | (refine Zz ?_ ?_ <;> (intro h; try exact Za)) | (refine Zdl ?_; intro w hs)))
  all_goals first | exact GivesS.of hst hs _ Zf5 rfl Ze | exact GivesS.of hst hs o hok rfl Ze | contradiction | exact Zy
end
end Go.Proofs.YtbinaeemcidicaaGreatDoor
namespace Go.Proofs.YtbinaeemcidicaaGreatDoor
open Go.PB Go.RowKit
attribute [local irreducible] Go.Calls
section
variable {lv kv : Value} {pb : Nat} {R : List Ent} {l : List Nv} {i : Nat} {kd nm pl : Int} {ty tx : List UInt8} {ks : List Int} {K : List (List (List UInt8))}
theorem layI_decl (hT : RdT R lv l) (hi : i < l.length) (hy : l.getD i nv0 = ⟨⟨kd, ty, tx, nm, ks, pl⟩, kv⟩) (hk : kd = 2) (hty : 0 < ty.length) (hl : K.length = ks.length) (hK : ∀ j, j < ks.length → LayI lv pb R (ks.getD j 0) (K.getD j [])) (h63 : ks.length ≤ 1000000) : LayI lv pb R (i : Nat) ((if tx = [] then [] else [tx]) ++ ([ty] ++ (comS K ++ [[59]]))) := by
 intro M w0 w A s o hst hR hok hb
 (obtain ⟨tb, toff, tc, tarr, tet, tfr, twr, rfl, htm, ga, hv⟩ := node_at hT hi hy; obtain ⟨q, c, rfl⟩ := hv.len; have htA := hR _ htm)
 have hli := list_okP (lv := .slice (some ⟨tb, toff, none⟩) l.length tc) (pb := pb) hv hl hK h63
 subst hk
 (refine Zb1 ?_; simp only [argL])
 by_cases h0 : tx = []
 ·rw [if_pos h0] at hb ⊢
  simp only [putsS_app, putsS_nil] at hb ⊢
  repeat' (first | (apply gL; first | (apply Wl.ev rfl rfl; exact Zkr) | ((show Wl _ _ _ _ _ _ _ (⟨none, .store _ (.tmp 4) (.tmp 16), _, _, _, _⟩ :: _) _ _); refine wl_storeWhole rfl rfl rfl (szT rfl) Zq Zf Zmi ?_) | (refine lC 49 33 ?_; refine wl_callS rfl rfl has33 rfl Zl6 ?_; intro oq hoq) | (refine lC 53 34 ?_; refine wl_callS rfl rfl has34 rfl Zll ?_; intro oq hoq) | (refine lC 56 33 ?_; refine wl_callS rfl rfl has33 rfl Zio ?_; intro oq hoq) | apply Wl.nil | (refine Zbd ?_; intro b) | (apply wl_buildSlice rfl rfl (slT rfl) (szT rfl) (zeroT rfl) rfl Zf6 rfl; exact Zt; intro b)) | (apply gQ; first | (apply Wq.ev rfl rfl; exact Zkr)) | (apply lW; first | apply W.seq | apply W.region | apply W.block | apply W.blk | apply W.skip | (refine Zbk ?_) | (refine Zbg ?_) | (refine Zdl ?_; intro w hs)))
  all_goals first | exact GivesS.of hst hs _ Zf5 rfl Ze | contradiction | exact Zy
 ·have htx : 0 < tx.length := List.length_pos_iff.2 h0
  rw [if_neg h0] at hb ⊢
  simp only [putsS_app] at hb ⊢
  repeat' (first | (apply gL; first | (apply Wl.ev rfl rfl; exact Zks) | ((show Wl _ _ _ _ _ _ _ (⟨none, .store _ (.tmp 4) (.tmp 16), _, _, _, _⟩ :: _) _ _); refine wl_storeWhole rfl rfl rfl (szT rfl) Zq Zf Zmi ?_) | (refine lC 44 33 ?_; refine wl_callS rfl rfl has33 rfl Ziq ?_; intro oq hoq) | (refine lC 49 33 ?_; refine wl_callS rfl rfl has33 rfl Zl6 ?_; intro oq hoq) | (refine lC 53 34 ?_; refine wl_callS rfl rfl has34 rfl Zll ?_; intro oq hoq) | (refine lC 56 33 ?_; refine wl_callS rfl rfl has33 rfl Zio ?_; intro oq hoq) | apply Wl.nil | (refine Zbd ?_; intro b) | (apply wl_buildSlice rfl rfl (slT rfl) (szT rfl) (zeroT rfl) rfl Zf6 rfl; exact Zt; intro b)) | (apply gQ; first | (apply Wq.ev rfl rfl; exact Zks)) | (apply lW; first | apply W.seq | apply W.region | apply W.block | apply W.blk | (refine Zbk ?_) | (refine Zbg ?_) | (refine Zdl ?_; intro w hs)))
  all_goals first | exact GivesS.of hst hs _ Zf5 rfl Ze | contradiction | exact Zy
theorem layI_v0 (hT : RdT R lv l) (hi : i < l.length) (hy : l.getD i nv0 = ⟨⟨kd, ty, tx, nm, ks, pl⟩, kv⟩) (hk : kd = 3) (htx : 0 < tx.length) (hks : ks = []) : LayI lv pb R (i : Nat) [tx] := by
 intro M w0 w A s o hst hR hok hb
 (obtain ⟨tb, toff, tc, tarr, tet, tfr, twr, rfl, htm, ga, hv⟩ := node_at hT hi hy; obtain ⟨q, c, rfl⟩ := hv.len; have htA := hR _ htm)
 subst hk hks
 simp only [List.length_nil] at ga
 (refine Zb1 ?_; simp only [argL])
 repeat' (first | (apply gL; first | (apply Wl.ev rfl rfl; exact Zlj) | ((show Wl _ _ _ _ _ _ _ (⟨none, .store _ (.tmp 4) (.tmp 16), _, _, _, _⟩ :: _) _ _); refine wl_storeWhole rfl rfl rfl (szT rfl) Zq Zf Zmi ?_) | (refine lC 63 33 ?_; refine wl_callS rfl rfl has33 rfl Ziq ?_; intro oq hoq) | apply Wl.nil | (refine Zbd ?_; intro b) | (apply wl_buildSlice rfl rfl (slT rfl) (szT rfl) (zeroT rfl) rfl Zf6 rfl; exact Zt; intro b)) | (apply gQ; first | (apply Wq.ev rfl rfl; exact Zlj)) | (apply lW; first | apply W.seq | apply W.region | apply W.block | apply W.blk | apply W.skip | (refine Zbk ?_) | (refine Zbg ?_) | (refine Zdl ?_; intro w hs)))
 all_goals first | exact GivesS.of hst hs _ Zf5 rfl Ze | contradiction | exact Zy
theorem layI_v1 (hT : RdT R lv l) (hi : i < l.length) (hy : l.getD i nv0 = ⟨⟨kd, ty, tx, nm, ks, pl⟩, kv⟩) (hk : kd = 3) (htx : 0 < tx.length) {a : Int} (hks : ks = [a]) {t0 : List (List UInt8)} (h0 : LayI lv pb R a t0) : LayI lv pb R (i : Nat) ([tx] ++ ([[61]] ++ t0)) := by
 intro M w0 w A s o hst hR hok hb
 (obtain ⟨tb, toff, tc, tarr, tet, tfr, twr, rfl, htm, ga, hv⟩ := node_at hT hi hy; obtain ⟨q, c, rfl⟩ := hv.len; have htA := hR _ htm)
 subst hk hks
 simp only [putsS_app] at hb ⊢
 obtain ⟨kb, koff, kc, karr, ket, kfr, kwr, he, hmm, hcc, hgt⟩ := hv.pos (Nat.succ_pos _)
 cases he
 have hmA := hR _ hmm
 have g0 : ∀ o, o = koff + 0 → karr[o]? = some (.int .i64 a) := fun o ho => hgt 0 _ rfl o ho
 (refine Zb1 ?_; simp only [argL])
 repeat' (first | (apply gL; first | (apply Wl.ev rfl rfl; exact Zj0) | ((show Wl _ _ _ _ _ _ _ (⟨none, .store _ (.tmp 4) (.tmp 16), _, _, _, _⟩ :: _) _ _); refine wl_storeWhole rfl rfl rfl (szT rfl) Zq Zf Zmi ?_) | (refine lC 63 33 ?_; refine wl_callS rfl rfl has33 rfl Ziq ?_; intro oq hoq) | (refine lC 70 33 ?_; refine wl_callS rfl rfl has33 rfl (fun w hs => put_at (ss := [[61]]) hs Zs Zd rfl Zf5 Zv Zi (Nat.le_of_ble_eq_true rfl)) ?_; intro oq hoq) | (refine lC 76 17 ?_; refine wl_callS rfl rfl has17 rfl Zjl ?_; intro oq hoq) | apply Wl.nil | (refine Zbd ?_; intro b) | (apply wl_buildSlice rfl rfl (slT rfl) (szT rfl) (zeroT rfl) rfl Zf6 rfl; exact Zt; intro b)) | (apply gQ; first | (apply Wq.ev rfl rfl; exact Zj0)) | (apply lW; first | apply W.seq | apply W.region | apply W.block | apply W.blk | (refine Zbk ?_) | (refine Zbg ?_) | (refine Zdl ?_; intro w hs)))
 all_goals first | exact GivesS.of hst hs _ Zf5 rfl Ze | contradiction | exact Zy
theorem layI_prm (hT : RdT R lv l) (hi : i < l.length) (hy : l.getD i nv0 = ⟨⟨kd, ty, tx, nm, ks, pl⟩, kv⟩) (hk : kd = 5) (hty : 0 < ty.length) (htx : 0 < tx.length) : LayI lv pb R (i : Nat) [ty, tx] := by
 intro M w0 w A s o hst hR hok hb
 (obtain ⟨tb, toff, tc, tarr, tet, tfr, twr, rfl, htm, ga, hv⟩ := node_at hT hi hy; obtain ⟨q, c, rfl⟩ := hv.len; have htA := hR _ htm)
 subst hk
 (refine Zb1 ?_; simp only [argL])
 repeat' (first | (apply gL; first | (apply Wl.ev rfl rfl; exact Zlb) | ((show Wl _ _ _ _ _ _ _ (⟨none, .store _ (.tmp 4) (.tmp 16), _, _, _, _⟩ :: _) _ _); refine wl_storeWhole rfl rfl rfl (szT rfl) Zq Zf Zmi ?_) | (refine lC 114 33 ?_; refine wl_callS rfl rfl has33 rfl (fun w hs => put_at (ss := [ty, tx]) hs Zs Zd rfl Zf5 Zv Zi (Nat.le_of_ble_eq_true rfl)) ?_; intro oq hoq) | apply Wl.nil | (refine Zbd ?_; intro b) | (apply wl_buildSlice rfl rfl (slT rfl) (szT rfl) (zeroT rfl) rfl Zf6 rfl; exact Zt; intro b)) | (apply gQ; first | (apply Wq.ev rfl rfl; exact Zlb)) | (apply lW; first | apply W.seq | apply W.region | apply W.block | apply W.blk | (refine Zbk ?_) | (refine Zbg ?_) | (refine Zdl ?_; intro w hs)))
 all_goals first | exact GivesS.of hst hs _ Zf5 rfl Ze | contradiction | exact Zy
theorem intV_app (a b : List Int) : intV (a ++ b) = intV a ++ intV b := by unfold intV; rw [List.map_append]
theorem RdX.front {R : List Ent} {q : Option Addr} {n m c : Nat} {xs ys : List Value} (h : RdX R (.slice q n c) n (xs ++ ys)) (hm : m ≤ n) (hx : xs.length = m) : RdX R (.slice q m c) m xs := by
 rcases h with ⟨p, c', h1, h2⟩ | ⟨b', off', c', arr, et, fr, wr, h1, h2, h3, h4⟩
 ·cases h1
  exact .inl ⟨_, _, by rw [show m = 0 by omega], by omega⟩
 ·cases h1
  exact .inr ⟨_, _, _, arr, et, fr, wr, rfl, h2, by omega, fun j u hu => h4 j u (by
   rw [List.getElem?_append_left]
   ·exact hu
   ·exact (List.getElem?_eq_some_iff.1 hu).1)⟩
theorem layI_func (hT : RdT R lv l) (hi : i < l.length) (hy : l.getD i nv0 = ⟨⟨kd, ty, tx, nm, ks, pl⟩, kv⟩) (hk : kd = 4) (hty : 0 < ty.length) (htx : 0 < tx.length) {k0 : List Int} {kl : Int} (hks : ks = k0 ++ [kl]) {t1 : List (List UInt8)} (hl : K.length = k0.length) (hK : ∀ j, j < k0.length → LayI lv pb R (k0.getD j 0) (K.getD j [])) (h63 : k0.length ≤ 1000000) (h1 : LayI lv pb R kl t1) :
  LayI lv pb R (i : Nat) ([ty, tx, [40]] ++ (comS K ++ ([[41]] ++ t1))) := by
 intro M w0 w A s o hst hR hok hb
 (obtain ⟨tb, toff, tc, tarr, tet, tfr, twr, rfl, htm, ga, hv⟩ := node_at hT hi hy; obtain ⟨q, c, rfl⟩ := hv.len; have htA := hR _ htm)
 have hkl : ks.length = k0.length + 1 := by rw [hks]; simp
 have hv0 : RdX R (.slice q k0.length c) k0.length (intV k0) := RdX.front (xs := intV k0) (ys := intV [kl]) (n := ks.length) (by rw [← intV_app, ← hks]; exact hv) Zf7 (by unfold intV; simp)
 have hli := list_okP (lv := .slice (some ⟨tb, toff, none⟩) l.length tc) (pb := pb) hv0 hl hK h63
 simp only [putsS_app] at hb ⊢
 obtain ⟨kb, koff, kc, karr, ket, kfr, kwr, he, hmm, hcc, hgt⟩ := hv.pos Zf7
 cases he
 have hmA := hR _ hmm
 have g0 : ∀ o, o = koff + k0.length → karr[o]? = some (.int .i64 kl) := fun o ho => hgt k0.length _ (by rw [hks, intV_app]; unfold intV; simp) o ho
 subst hk
 rw [hkl] at ga
 (refine Zb1 ?_; simp only [argL])
 repeat' (first | (apply gL; first | (apply Wl.ev rfl rfl; exact Zjb) | ((show Wl _ _ _ _ _ _ _ (⟨none, .store _ (.tmp 4) (.tmp 16), _, _, _, _⟩ :: _) _ _); refine wl_storeWhole rfl rfl rfl (szT rfl) Zq Zf Zmi ?_) | (refine lC 89 33 ?_; refine wl_callS rfl rfl has33 rfl (fun w hs => put_at (ss := [ty, tx, [40]]) hs Zs Zd rfl Zf5 Zv Zi (Nat.le_of_ble_eq_true rfl)) ?_; intro oq hoq) | (refine lC 95 34 ?_; refine wl_callS rfl rfl has34 rfl Zll ?_; intro oq hoq) | (refine lC 98 33 ?_; refine wl_callS rfl rfl has33 rfl Zi2 ?_; intro oq hoq) | (refine lC 105 17 ?_; refine wl_callS rfl rfl has17 rfl Zkk ?_; intro oq hoq) | apply Wl.nil | (refine Zbd ?_; intro b) | (apply wl_buildSlice rfl rfl (slT rfl) (szT rfl) (zeroT rfl) rfl Zf6 rfl; exact Zt; intro b)) | (apply gQ; first | (apply Wq.ev rfl rfl; exact Zjb)) | (apply lW; first | apply W.seq | apply W.region | apply W.block | apply W.blk | (refine Zbk ?_) | (refine Zbg ?_) | (refine Zdl ?_; intro w hs)))
 all_goals first | exact GivesS.of hst hs _ Zf5 rfl Ze | contradiction | exact Zy
end
end Go.Proofs.YtbinaeemcidicaaGreatDoor
