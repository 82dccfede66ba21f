/- Walks: a node and all within it gone through: its kids. No condition. -/
import Derived.Test.YtbinaeemcidicaaGreatDoorZYC
set_option maxRecDepth 100000
set_option maxHeartbeats 16000000
namespace Go.Proofs.YtbinaeemcidicaaGreatDoor
open Go.PB Go.RowKit
attribute [local irreducible] Go.Calls
theorem node_func {lv : Value} {cb : Nat} {N : List Nv} {b deep : Nat} (hdb : deep + b = 32) (hN : N.length ≤ 1000000) (hz : ∀ y ∈ N, y.nd.ks.length ≤ 1000000) (ih : NodC lv cb N b (deep + 1)) {loc wide : Bool} {i : Nat} {M : List Nat} {w0 w : World} {A : List Ent} {depth : Nat}
  (h14 : (N.getD i nv0).nd.kd = 1 ∨ (N.getD i nv0).nd.kd = 4 → loc = false) (hd : depth ≤ 32) (hst : St M w0 w (⟨cb, true, ckO lv (deep : Nat) (depth : Nat) loc⟩ :: A)) (hT : RdT A lv N) (hi : i < N.length) {ws : List Nat} (hk : kindsK (N.getD i nv0).nd.kd (N.getD i nv0).nd.ks.length = some ws) (hsk : saidK (N.getD i nv0).nd loc wide = true)
  (h4 : (N.getD i nv0).nd.kd = 4) :
  Calls Tryz.prog 37 #[ptr cb, .int .i64 (i : Nat), .bool wide] w (GivesS (fun _ : Nat => .int .i64 (nodV (chkN (N.map Nv.nd) (b + 1) loc wide i))) (fun x => x ≤ 32 ∧ ∀ q nx, chkN (N.map Nv.nd) (b + 1) loc wide i = some (q, nx) → x = max depth (deep + hgtP q)) M w0
   (fun x => ⟨cb, true, ckO lv (deep : Nat) (x : Nat) loc⟩ :: A)) := by
 have hkl := hz _ (getD_memN hi)
 have hgd := map_getD N i
 obtain ⟨y, hy⟩ : ∃ y, N.getD i nv0 = y := ⟨_, rfl⟩
 rw [hy] at hkl hk hsk h14 h4 hgd
 obtain ⟨⟨kd, ty, tx, nm, ks, pl⟩, kv⟩ := y
 dsimp only at hkl hk hsk h14 h4 hgd
 obtain rfl := h14 (.inr h4)
 subst h4
 have hwl := kinds_len hk
 have hwm := kinds_mem hk
 obtain ⟨tb, toff, tc, tarr, tet, tfr, twr, rfl, htm, ga, hv⟩ := nv_read hT hi hy
 obtain ⟨q, c, rfl⟩ := hv.len
 have hkin := fun {M : List Nat} {w0 w : World} {H : List Ent} (hs : St M w0 w H) => kinds_ok (kd := 4) (nm := nm) (pl := pl) (ty := ty) (tx := tx) (p := q) (k := ks.length) (c := c) hs hkl
 unfold KindR at hkin
 rw [hk] at hkin
 have hsd : ∀ w, Calls Tryz.prog 70 #[.agg (ndM 4 ty tx nm (.slice q ks.length c) pl).toArray, .bool false, .bool wide] w (Give (.bool true) w) := fun w => by
  rw [← hsk]
  exact said_ok w
 obtain ⟨f, hf⟩ : ∃ f, chkN (N.map Nv.nd) b (false || decide (4 = 4)) = f := ⟨_, rfl⟩
 obtain ⟨o, ho⟩ : ∃ o, chkN (N.map Nv.nd) (b + 1) false wide i = o := ⟨_, rfl⟩
 have hres : o = match chkK f (N.map Nv.nd) ws ks (i + 1) with
   | none => none
   | some r => if lastK ⟨4, ty, tx, nm, ks, pl⟩ r.1 = true then none else some (.mk 4 ty tx nm pl r.1, r.2) := by
  rw [← ho, ← hf]
  exact chkN_at Zfq hgd hk hsk
 rw [ho]
 clear ho
 have hlcf : ∀ w i q nx, f w i = some (q, nx) → nx ≤ (N.map Nv.nd).length := fun w i q nx h => by rw [← hf] at h; exact chkN_le h
 refine calls_of_WD (vs := [ptr cb, .int .i64 (i : Nat), .bool wide]) Tryz.func37 rfl Tryz.ntmps37 (Nat.le_of_ble_eq_true rfl) hst.fromHere ?_
 simp only [argL]
 repeat' (first | (apply gL; first | (apply Wl.ev rfl rfl; exact Zcg) | (refine Zfn ?_; refine wl_box rfl rfl rfl rfl ?_; intro b3) | (refine lA 7 ?_; refine wl_alloc rfl rfl (zeroT rfl) ?_; intro b7) | ((show Wl _ _ _ _ _ _ _ (⟨none, .store _ (.tmp 7) (.tmp 33), _, _, _, _⟩ :: _) _ _); refine wl_storeWhole rfl rfl rfl (szT rfl) Zq Zf Zmi ?_) | (refine lC 36 69 ?_; refine wl_callS rfl rfl has69 rfl Zf1 ?_; rintro ⟨kn, ko⟩ hws; dsimp only at hws; refine Wl.reC (H' := ⟨b7, true, row (ndM 4 ty tx nm (.slice q ks.length c) pl) 47⟩ :: ⟨b3, true, row [ptr cb] 85⟩ :: ⟨cb, true, ckO (.slice (some ⟨tb, toff, none⟩) N.length tc) (deep : Nat) (depth : Nat) false⟩ :: (A ++ ownH 3 ko)) Zr ?_) | ((show Wl _ _ _ _ _ _ _ (⟨none, .defer _, _, _, _, _⟩ :: _) _ _); refine wl_defer (cs := [ptr b3]) rfl rfl ?_) | apply Wl.nil | (refine Zf9 ?_; try simp only [List.set]) | ((fail_if_success (apply Wl.chk rfl)); refine Wl.split rfl rfl ?_ ?_ <;> (intro h; try exact Za))) | (apply gQ; first | (apply Wq.ev rfl rfl; exact Zcg) | (refine qD 70 ?_; refine Wq.call0 rfl rfl has70 rfl (fun w hs => hsd w) ?_) | ((show Wq _ _ (Qt _ _ _ _) _ _ _ _ [] _ _); apply Wq.tail) | apply Wq.nil) | (apply lW; first | apply W.seq | ((show W _ _ _ _ _ _ (.inl (.region 7 _ true) :: _) _ _); refine W.regionT 12 mixed Zj rfl rfl ?_) | ((show W _ _ _ _ _ _ (.inl (.loop _) :: _) _ _); refine W.loop (X := Nat × Nat × Nat × List Pt) (fun x => [(1, .int .i64 (i : Nat)), (3, ptr b3), (7, ptr b7), (8, ownV kn ko), (10, .int .i64 (x.2.1 : Nat)), (81, .slice q ks.length c), (82, .int .i64 (ks.length : Nat)), (83, .int .i64 (x.1 : Nat))]) (fun x => ⟨b7, true, row (ndM 4 ty tx nm (.slice q ks.length c) pl) 47⟩ :: ⟨b3, true, row [ptr cb] 85⟩ :: ⟨cb, true, ckO (.slice (some ⟨tb, toff, none⟩) N.length tc) ((deep : Nat) + 1) (x.2.2.1 : Nat) true⟩ :: (A ++ ownH 3 ko)) (fun x => goI f (N.map Nv.nd) ws ks i x.1 x.2.1 x.2.2.2 ∧ x.2.2.1 ≤ 32 ∧ x.2.2.1 = max (max depth deep) (deep + hgtL x.2.2.2)) (fun x => ks.length - x.1) (0, i + 1, max depth deep, []) ⟨goI.first Zfq, by show max depth deep ≤ 32; omega, by show max depth deep = max (max depth deep) (deep + hgtL []); rw [hgtL]; omega⟩ Zn (List.Sublist.refl _) ?_) | (refine Zgf ?_) | apply W.region | apply W.block | apply W.skip | apply W.label | apply W.scope0 | (refine Zbk ?_) | (refine Zbg ?_) | (refine Zz ?_ ?_ <;> (intro h; try exact Za))))
 all_goals first | contradiction | exact Zy | skip
 rintro ⟨j, nx, x, pre⟩ ⟨hI, hx32, hx⟩
 dsimp only at hI hx32 hx ⊢
 obtain ⟨rfl, hok⟩ := hws ws rfl
 have hI' := hI
 obtain ⟨hj, hpl, hnx, _⟩ := hI'
 rw [List.length_map] at hnx
 by_cases hlt : j < ks.length
 ·obtain ⟨ob, ocap, ocur, rfl, hocap, hosz, hoget⟩ := own_some hok Zf7
  have hw6 := hwm _ (getD_memW (show j < ws.length by omega))
  have go : ∀ o, o = 0 + j → ocur[o]? = some (.int .i64 (ws.getD j 0 : Nat)) := fun o e => by
   rw [e, Nat.zero_add]
   exact hoget j _ (wsV_get Zf7)
  obtain ⟨kb, koff, kc, karr, ket, kfr, kwr, he, hmm, hcc, hgt⟩ := hv.pos Zf7
  cases he
  have gk : ∀ o, o = koff + j → karr[o]? = some (.int .i64 (ks.getD j 0)) := fun o e => by
   rw [e]
   exact hgt j _ (by unfold intV; simp [List.getD, hlt]) _ rfl
  obtain ⟨wv, hwv⟩ : ∃ wv, ws.getD j 0 = wv := ⟨_, rfl⟩
  obtain ⟨K, hK⟩ : ∃ K, ks.getD j 0 = K := ⟨_, rfl⟩
  have hbad := hI.bad hwl hlt
  have hnok := hI.nokid hwl hlt
  have hkid := fun {q n1} h1 h2 h3 => hI.kid hwl hlt (q := q) (n1 := n1) h1 h2 h3
  rw [hwv] at hw6 go hbad hnok hkid
  rw [hK] at gk hbad hnok hkid
  rw [List.length_map, map_getD] at hbad hnok hkid
  dsimp only [ownV_some, ownH_some]
  have stop : chkK f (N.map Nv.nd) ws ks (i + 1) = none → o = none := fun h => by rw [hres, h]
  by_cases hKn : K = (nx : Int)
  rotate_left
  ·obtain rfl := stop (hbad (.inl hKn))
   repeat' (first | (apply gL; first | (apply Wl.ev rfl rfl; exact Zb4) | apply Wl.nil) | (apply gQ; first | (apply Wq.ev rfl rfl; exact Zb4) | apply Wq.nil | (refine Zek ?_)) | (apply lW; first | apply W.seq | ((show W _ (bodyPostD _ _ _) _ _ _ _ (.inl .ret :: _) _ _); refine W.reC (H' := ⟨b3, true, row [ptr cb] 85⟩ :: ⟨cb, true, ckO (.slice (some ⟨tb, toff, none⟩) N.length tc) ((deep : Nat) + 1) (x : Nat) true⟩ :: A) Zr ?_; refine W.ret1DD has72 has71 out_ok (dec_ok Zf7) rfl rfl ?_; intro w hs) | (refine Zgf ?_) | apply W.region | apply W.block | apply W.blk | apply W.skip | (refine Zcm ?_) | (refine Zbk ?_) | (refine Zz ?_ ?_ <;> (intro h; try exact Za))))
   all_goals first | exact GivesS.ofC hst hs x ⟨hx32, fun q nx h => by cases h⟩ rfl Zr | contradiction | exact Zy
  subst hKn
  by_cases hnl : nx < N.length
  rotate_left
  ·obtain rfl := stop (hbad (.inr (.inl Zf7)))
   repeat' (first | (apply gL; first | (apply Wl.ev rfl rfl; exact Zbt) | apply Wl.nil) | (apply gQ; first | (apply Wq.ev rfl rfl; exact Zbt) | apply Wq.nil | (refine Zek ?_) | ((fail_if_success (apply Wq.chk rfl)); refine Wq.split rfl rfl ?_ ?_ <;> (intro h; try exact Za))) | (apply lW; first | apply W.seq | ((show W _ (bodyPostD _ _ _) _ _ _ _ (.inl .ret :: _) _ _); refine W.reC (H' := ⟨b3, true, row [ptr cb] 85⟩ :: ⟨cb, true, ckO (.slice (some ⟨tb, toff, none⟩) N.length tc) ((deep : Nat) + 1) (x : Nat) true⟩ :: A) Zr ?_; refine W.ret1DD has72 has71 out_ok (dec_ok Zf7) rfl rfl ?_; intro w hs) | (refine Zgf ?_) | apply W.region | apply W.block | apply W.blk | apply W.skip | (refine Zcm ?_) | (refine Zbk ?_) | (refine Zz ?_ ?_ <;> (intro h; try exact Za))))
   all_goals first | exact GivesS.ofC hst hs x ⟨hx32, fun q nx h => by cases h⟩ rfl Zr | contradiction | exact Zy
  obtain ⟨kd', hkd'⟩ : ∃ kd', (N.getD nx nv0).nd.kd = kd' := ⟨_, rfl⟩
  have gd : ∀ o, o = toff + nx * 6 + 0 → tarr[o]? = some (.int .i64 kd') := by
   obtain ⟨y', hy'⟩ : ∃ y, N.getD nx nv0 = y := ⟨_, rfl⟩
   rw [hy'] at hkd'
   obtain ⟨⟨k1, k2, k3, k4, k5, k6⟩, k7⟩ := y'
   dsimp only at hkd'
   subst hkd'
   obtain ⟨tb', toff', tc', tarr', tet', tfr', twr', he', htm', ga', _⟩ := nv_read hT hnl hy'
   cases he'
   have := hst.get (List.Mem.tail _ htm)
   rw [hst.get (List.Mem.tail _ htm')] at this
   cases this
   exact fun o ho => ga' 0 _ rfl o Zf7
  rw [hkd'] at hbad hnok hkid
  have hft : ∀ w, Calls Tryz.prog 73 #[.int .i64 (wv : Nat), .int .i64 kd'] w (Give (.bool (fitsK wv kd')) w) := fun w => fits_ok hw6.1 kd' w
  obtain ⟨fb, hfb⟩ : ∃ fb, fitsK wv kd' = fb := ⟨_, rfl⟩
  rw [hfb] at hft
  cases fb with
  | false =>
   obtain rfl := stop (hbad (.inr (.inr hfb)))
   repeat' (first | (apply gL; first | (apply Wl.ev rfl rfl; exact Zhf) | apply Wl.nil) | (apply gQ; first | (apply Wq.ev rfl rfl; exact Zhf) | (refine qD 73 ?_; refine Wq.call0 rfl rfl has73 rfl Zfc ?_) | apply Wq.nil | ((fail_if_success (apply Wq.chk rfl)); refine Wq.split rfl rfl ?_ ?_ <;> (intro h; try exact Za))) | (apply lW; first | apply W.seq | ((show W _ (bodyPostD _ _ _) _ _ _ _ (.inl .ret :: _) _ _); refine W.reC (H' := ⟨b3, true, row [ptr cb] 85⟩ :: ⟨cb, true, ckO (.slice (some ⟨tb, toff, none⟩) N.length tc) ((deep : Nat) + 1) (x : Nat) true⟩ :: A) Zr ?_; refine W.ret1DD has72 has71 out_ok (dec_ok Zf7) rfl rfl ?_; intro w hs) | (refine Zgf ?_) | apply W.region | apply W.block | apply W.blk | apply W.skip | (refine Zcm ?_) | (refine Zbk ?_) | (refine Zz ?_ ?_ <;> (intro h; try exact Za))))
   all_goals first | exact GivesS.ofC hst hs x ⟨hx32, fun q nx h => by cases h⟩ rfl Zr | contradiction | exact Zy
  | true =>
   have hgood : ¬(((nx : Nat) : Int) ≠ ((nx : Nat) : Int) ∨ N.length ≤ nx ∨ fitsK wv kd' = false) := by
    rw [hfb]
    intro h
    rcases h with h | h | h
    ·exact h rfl
    ·omega
    ·cases h
   have hpre : (N.getD nx nv0).nd.kd = 1 ∨ (N.getD nx nv0).nd.kd = 4 → true = false := fun h => by
    rw [hkd'] at h
    obtain ⟨n1, n4⟩ := fits_14 hfb
    rcases h with h | h
    ·exact absurd h n1
    ·exact absurd ((hw6.2 (n4 h))) Zf6
   have hloc : (false || decide (4 = 4)) = true := rfl
   have hcall := fun {M : List Nat} {w0 w : World} {A' : List Ent} (hs : St M w0 w (⟨cb, true, ckO (.slice (some ⟨tb, toff, none⟩) N.length tc) ((deep + 1 : Nat) : Int) (x : Nat) true⟩ :: A')) (hT' : RdT A' (.slice (some ⟨tb, toff, none⟩) N.length tc) N) => ih (loc := true) (wide := decide (wv = 6)) (i := nx) hpre (M := M) (w0 := w0) (w := w) (A := A') (depth := x) hx32 hs hT'
   rw [← hloc, hf] at hcall
   rw [hloc, show ((deep + 1 : Nat) : Int) = (deep : Nat) + 1 from Int.natCast_succ deep] at hcall
   cases hfk : f (decide (wv = 6)) nx with
   | none =>
    obtain rfl := stop (hnok hgood hfk)
    rw [hfk] at hcall
    repeat' (first | (apply gL; first | (apply Wl.ev rfl rfl; exact Zg0) | (refine lC 123 37 ?_; refine wl_callS rfl rfl has37 rfl Zgy ?_; rintro y ⟨hy32, hyx⟩; refine Wl.reC (H' := ⟨b7, true, row (ndM 4 ty tx nm (.slice (some ⟨kb, koff, none⟩) ks.length c) pl) 47⟩ :: ⟨b3, true, row [ptr cb] 85⟩ :: ⟨cb, true, ckO (.slice (some ⟨tb, toff, none⟩) N.length tc) ((deep : Nat) + 1) (y : Nat) true⟩ :: (A ++ [⟨ob, true, .cells ocur 3 (0, 0)⟩])) Zr ?_) | apply Wl.nil) | (apply gQ; first | (apply Wq.ev rfl rfl; exact Zg0) | ((show Wq _ _ (Qt _ _ _ _) _ _ _ _ [] _ _); apply Wq.tail) | (refine qD 73 ?_; refine Wq.call0 rfl rfl has73 rfl Zfc ?_) | apply Wq.nil | ((fail_if_success (apply Wq.chk rfl)); refine Wq.split rfl rfl ?_ ?_ <;> (intro h; try exact Za))) | (apply lW; first | apply W.seq | ((show W _ (bodyPostD _ _ _) _ _ _ _ (.inl .ret :: _) _ _); refine W.reC (H' := ⟨b3, true, row [ptr cb] 85⟩ :: ⟨cb, true, ckO (.slice (some ⟨tb, toff, none⟩) N.length tc) ((deep : Nat) + 1) (y : Nat) true⟩ :: A) Zr ?_; refine W.ret1DD has72 has71 out_ok (dec_ok Zf7) rfl rfl ?_; intro w hs) | ((show W _ _ _ _ _ _ (.inl (.region 19 _ true) :: _) _ _); refine W.regionT 7 mixed Zj rfl rfl ?_) | (refine Zgf ?_) | apply W.region | apply W.block | apply W.blk | apply W.skip | (refine Zcm ?_) | (refine Zbk ?_) | (refine Zbg ?_) | (refine Zz ?_ ?_ <;> (intro h; try exact Za))))
    all_goals first | exact GivesS.ofC hst hs y ⟨hy32, fun q nx h => by cases h⟩ rfl Zr | contradiction | exact Zy
   | some r =>
    obtain ⟨p, n1⟩ := r
    rw [hfk] at hcall
    have hn1 := hlcf _ _ _ _ hfk
    rw [List.length_map] at hn1
    have hI1 := hkid hgood hfk hn1
    repeat' (first | (apply gL; first | (apply Wl.ev rfl rfl; exact Zg0) | (refine lC 123 37 ?_; refine wl_callS rfl rfl has37 rfl Zgy ?_; rintro y ⟨hy32, hyx⟩; refine Wl.reC (H' := ⟨b7, true, row (ndM 4 ty tx nm (.slice (some ⟨kb, koff, none⟩) ks.length c) pl) 47⟩ :: ⟨b3, true, row [ptr cb] 85⟩ :: ⟨cb, true, ckO (.slice (some ⟨tb, toff, none⟩) N.length tc) ((deep : Nat) + 1) (y : Nat) true⟩ :: (A ++ [⟨ob, true, .cells ocur 3 (0, 0)⟩])) Zr ?_) | apply Wl.nil) | (apply gQ; first | (apply Wq.ev rfl rfl; exact Zg0) | ((show Wq _ _ (Qt _ _ _ _) _ _ _ _ [] _ _); apply Wq.tail) | (refine qD 73 ?_; refine Wq.call0 rfl rfl has73 rfl Zfc ?_) | apply Wq.nil | ((fail_if_success (apply Wq.chk rfl)); refine Wq.split rfl rfl ?_ ?_ <;> (intro h; try exact Za))) | (apply lW; first | apply W.seq | ((show W _ _ _ _ _ _ (.inl (.region 19 _ true) :: _) _ _); refine W.regionT 7 mixed Zj rfl rfl ?_) | (refine Zgf ?_) | apply W.region | apply W.block | apply W.blk | apply W.skip | (refine Zbg ?_) | (refine Zz ?_ ?_ <;> (intro h; try exact Za))))
    all_goals first | exact W.again (j + 1, n1, y, pre ++ [p]) ⟨hI1, hy32, by show y = max (max depth deep) (deep + hgtL (pre ++ [p])); rw [hyx p n1 rfl, hx, hgtL_snoc]; omega⟩ (show ks.length - (j + 1) < ks.length - j by omega) Zn (List.Sublist.refl _) | contradiction | exact Zy
 ·have hjl : j = ks.length := by omega
  have hck := hI.fin hwl hjl
  rw [hck] at hres
  dsimp only at hres
  have hl0 : lastK ⟨4, ty, tx, nm, ks, pl⟩ pre = false := rfl
  rw [hl0, if_neg Zf6] at hres
  subst hres
  repeat' (first | (apply gL; first | (apply Wl.ev rfl rfl; exact Zev) | apply Wl.nil | (refine Zbr ?_)) | (apply gQ; first | (apply Wq.ev rfl rfl; exact Zev) | apply Wq.nil | (refine Zek ?_)) | (apply lW; first | apply W.seq | ((show W _ (bodyPostD _ _ _) _ _ _ _ (.inl .ret :: _) _ _); refine W.reC (H' := ⟨b3, true, row [ptr cb] 85⟩ :: ⟨cb, true, ckO (.slice (some ⟨tb, toff, none⟩) N.length tc) ((deep : Nat) + 1) (x : Nat) true⟩ :: A) Zr ?_; refine W.ret1DD has72 has71 out_ok (dec_ok Zf7) rfl rfl ?_; intro w hs) | (refine Zgf ?_) | apply W.region | apply W.block | apply W.blk | apply W.skip | (refine Zcm ?_) | (refine Zbg ?_) | (refine Zz ?_ ?_ <;> (intro h; try exact Za))))
  all_goals first | exact GivesS.ofC hst hs x ⟨hx32, fun q nx h => by cases h; rw [hx, hgtP]; omega⟩ rfl Zr | contradiction | exact Zy
end Go.Proofs.YtbinaeemcidicaaGreatDoor
