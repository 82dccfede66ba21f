/- Walks: a declaration behind its type. No condition. -/
import Derived.Test.YtbinaeemcidicaaGreatDoorZPY
set_option maxRecDepth 100000
set_option maxHeartbeats 16000000
namespace Go.Proofs.YtbinaeemcidicaaGreatDoor
open Go.PB Go.RowKit
attribute [local irreducible] Go.Calls
theorem ptrs_snoc (l : List Tn) (t : Tn) : ptrs (l ++ [t]) = ptrs l ++ [ptr t.b] := by simp
theorem tnH_leaf {b : Nat} {kd : Int} {ty tx : List UInt8} {nm pl : Int} : tnH (.mk b kd ty tx nm pl none []) = [⟨b, true, ndO kd ty tx nm pl (.slice none 0 0)⟩] := by
 rw [tnH, tnsH]
 rfl
theorem tnOk_leaf {b : Nat} {kd : Int} {ty tx : List UInt8} {nm pl : Int} : tnOk (.mk b kd ty tx nm pl none []) := by
 rw [tnOk, tnsOk]
 exact ⟨⟨rfl, rfl⟩, trivial⟩
theorem tnP_leaf {b : Nat} {kd : Int} {ty tx : List UInt8} {nm pl : Int} : tnP (.mk b kd ty tx nm pl none []) = .mk kd ty tx nm pl [] := by rw [tnP, tnsP]
abbrev dcl (bn : Nat) (w ty : List UInt8) (a : Int) (n : Nat) (o : Ow) : Ent := ⟨bn, true, row [.int .i64 2, st ty, st w, .int .i32 0, .slice none 0 0, .int .i64 a, ownV n o] 104⟩
theorem decl_step {f : Nat} (ihe : NodeC f .expr 99 []) (t0 t9 : Ti) (tx : List UInt8) : NodeC (f + 1) (.decl t0.a t9.t tx) 62 [tiV t0, tiV t9, st tx] := by
 intro M w0 w H K TR r a lv L l l' o hst hu hT hm hl e
 (obtain ⟨A, p1, p2⟩ := hu.front; have hTA : ∀ e ∈ TR, e ∈ A := fun e he => mem_front p1 (hm e he) (hT.2.1 e he); have hst1 := hst.perm p1; have hlim := hT.2.2.1)
 rw [pF] at e
 have key : ∃ q lq, pF f (.vars []) l = some (q, lq) ∧ (q = none → o = none ∧ l' = lq) ∧ ∀ ps, q = some ps → tkP (isA [[59]]) lq (fun _ l => okP [.mk 2 t9.t tx 0 t0.a ps] l) = some (o, l') := by
  rcases bnd_cases e with ⟨e1, rfl⟩ | ⟨ps, l2, e1, e⟩
  ·exact ⟨none, _, e1, fun _ => ⟨rfl, rfl⟩, fun _ h => by cases h⟩
  ·exact ⟨some ps, _, e1, fun h => (by cases h), fun _ h => by cases h; exact e⟩
 obtain ⟨q, lq, eq1, hbad, hgood⟩ := key
 clear e
 (refine calls_of_W (vs := [ptr r, tiV t0, tiV t9, st tx]) Tryz.func62 rfl Tryz.ntmps62 (Nat.le_of_ble_eq_true rfl) hst1.fromHere ?_; simp only [argL])
 repeat' (first | (apply gL; first | (apply Wl.ev rfl rfl; exact Zev) | (refine lB _ ?_; refine wl_box rfl rfl rfl rfl ?_; intro bx) | (refine lC 17 93 ?_; refine wl_callS rfl rfl has93 rfl Zbm ?_; intro bn hq; clear hq) | apply Wl.nil | (refine Zf9 ?_; try simp only [List.set])) | (apply gQ; first | (apply Wq.ev rfl rfl; exact Zev)) | (apply lW; first | apply W.seq | (refine W.reC (H' := dcl bn tx t9.t t0.a ([] : List Tn).length none :: ⟨r, true, rdP lv (L.length - l.length)⟩ :: ((A ++ tnsH []) ++ ownH 77 none)) (by rw [← hl.len]; intro e; simp only [dcl, List.count_append, cnt_cons, List.count_nil, ownH, ownV, tnsH]; omega) ?_; refine W.loop (X := Bool × Nat × List Tn × Ow × List Ti) (fun x => [(0, ptr r), (9, ptr bn), (10, .bool x.1)]) (fun x => dcl bn tx t9.t t0.a x.2.2.1.length x.2.2.2.1 :: ⟨r, true, rdP lv (L.length - x.2.2.2.2.length)⟩ :: ((A ++ tnsH x.2.2.1) ++ ownH 77 x.2.2.2.1)) (fun x => x.2.1 ≤ f ∧ tnsOk x.2.2.1 ∧ ownOk x.2.2.1.length 1 (ptrs x.2.2.1) x.2.2.2.1 ∧ x.2.2.1.length + x.2.2.2.2.length ≤ L.length ∧ At L (L.length - x.2.2.2.2.length) x.2.2.2.2 ∧ (x.1 = true → pF x.2.1 (.vars (tnsP x.2.2.1)) x.2.2.2.2 = some (q, lq)) ∧ (x.1 = false → q = some (tnsP x.2.2.1) ∧ lq = x.2.2.2.2)) (fun x => x.2.1 + (if x.1 then 1 else 0)) (true, f, [], none, l) ⟨Nat.le_refl _, by rw [tnsOk]; trivial, ⟨rfl, rfl⟩, by have := hl.le; simp only [List.length_nil]; omega, by rw [← hl.len]; exact hl, fun _ => by rw [tnsP]; exact eq1, fun h => by cases h⟩ Zn (List.Sublist.refl _) ?_) | apply W.region | apply W.block))
 rintro ⟨more, g, ts, o1, l5⟩ ⟨hg, hok, hown, hlen5, at5, e, e'⟩
 dsimp only at hg hok hown hlen5 at5 e e' ⊢
 cases more with
 | false =>
  obtain ⟨rfl, rfl⟩ := e' rfl
  have e := hgood _ rfl
  rcases tk_cases (isA [[59]]) lq with ⟨t6, l6, rfl, c6⟩ | c6
  ·rw [tkP_ok c6] at e
   have a6 := at5.next
   cases e
   rw [← a6.len] at p2
   repeat' (first | (apply gL; first | (apply Wl.ev rfl rfl; exact Zev) | (refine lC 61 94 ?_; first | (refine Zho ?_; intro q hq; clear hq q) | (refine Zhp ?_; (first | refine bad_end ?_ | refine bad_endM ?_); intro w hs)) | apply Wl.nil) | (apply gQ; first | (apply Wq.ev rfl rfl; exact Zev)) | (apply lW; first | apply W.seq | apply W.region | (refine Zcm ?_) | (refine Zbg ?_) | (refine Zba ?_; intro w hs)))
   all_goals first | (simp only [dcl, row_nd] at hs; exact GivesS.ofC hst1 hs (.mk bn 2 t9.t tx 0 t0.a o1 ts) ⟨by rw [tnOk]; exact ⟨hown, hok⟩, by rw [tnP]; rfl⟩ rfl Zd7)
  ·rw [tkP_bad c6] at e
   cases e
   repeat' (first | (apply gL; first | (apply Wl.ev rfl rfl; exact Zev) | (refine lC 61 94 ?_; first | (refine Zho ?_; intro q hq; clear hq q) | (refine Zhp ?_; (first | refine bad_end ?_ | refine bad_endM ?_); intro w hs)) | apply Wl.nil) | (apply gQ; first | (apply Wq.ev rfl rfl; exact Zev)) | (apply lW; first | apply W.seq | apply W.region | (refine Zcm ?_) | (refine Zbg ?_)))
   all_goals first | exact BadS.ofC hst1 hs Zo
 | true =>
 clear e'
 have E := e rfl
 clear e
 cases g with
 | zero => rw [pF] at E; cases E
 | succ g =>
 rw [pF] at E
 rcases tk_cases namedT l5 with ⟨t, l6, rfl, c6⟩ | c6
 case inr =>
  rw [tkP_bad c6] at E
  cases E
  obtain ⟨rfl, rfl⟩ := hbad rfl
  repeat' (first | (apply gL; first | (apply Wl.ev rfl rfl; exact Zev) | (refine lC 32 57 ?_; first | (refine Zhu ?_; intro q hq; clear hq q) | (refine Zhv ?_; (first | refine bad_end ?_ | refine bad_endM ?_); intro w hs)) | apply Wl.nil) | (apply gQ; first | (apply Wq.ev rfl rfl; exact Zev)) | (apply lW; first | apply W.seq | apply W.region | apply W.block | apply W.skip | (refine Zbk ?_)))
  all_goals first | exact BadS.ofC hst1 hs Zo
 rw [tkP_ok c6] at E
 have a6 := at5.next
 have hl6 : l6.length + 1 = (t :: l6).length := rfl
 rcases may_cases [[61]] l6 with ⟨t7, l7, hl7, c7⟩ | c7
 ·have a7 := hl7 ▸ a6
  rw [hl7, mayP_yes c7] at E
  subst hl7
  have a7 := a7.next
  rcases bnd_cases E with ⟨e8, hq⟩ | ⟨p8, l8, e8, E⟩
  ·obtain ⟨rfl, rfl⟩ := hbad hq
   have e8 := pF_mono (show g ≤ f by omega) e8
   repeat' (first | (apply gL; first | (apply Wl.ev rfl rfl; exact Zev) | (refine Zf8 ?_) | (refine lC 32 57 ?_; first | (refine Zhu ?_; intro q hq; clear hq q) | (refine Zhv ?_; (first | refine bad_end ?_ | refine bad_endM ?_); intro w hs)) | (refine lC 36 93 ?_; refine wl_callS rfl rfl has93 rfl Zbm ?_; intro bv hq; clear hq) | (refine lC 40 98 ?_; first | (refine Zi5 ?_; intro q hq; clear hq q) | (refine Zi8 ?_; intro q hq; clear hq q)) | (refine lC 46 99 ?_; first | (refine Zhz ?_; rintro n1 ⟨hok1, hp1⟩) | (refine Zh1 ?_; (first | refine bad_end ?_ | refine bad_endM ?_); intro w hs)) | apply Wl.nil | (refine Zbd ?_; intro b) | (apply wl_buildSlice rfl rfl (slT rfl) (szT rfl) (zeroT rfl) rfl Zf6 rfl; exact Zt; intro b)) | (apply gQ; first | (apply Wq.ev rfl rfl; exact Zev)) | (apply lW; first | apply W.seq | apply W.region | apply W.block | apply W.skip | (refine Zbk ?_)))
   all_goals first | exact BadS.ofC hst1 hs Zo
  ·have hle := (pF_good g .expr l7 _ _ e8).1.length_le
   have e8 := pF_mono (show g ≤ f by omega) e8
   have a8 := a7.step e8
   have hl8 : l8.length + 1 ≤ (t :: t7 :: l7).length := by simp only [List.length_cons]; omega
   cases g with
   | zero => rw [pF] at E; cases E
   | succ g =>
   rw [pF] at E
   rcases may_cases [[44]] l8 with ⟨s, m, hm7, c9⟩ | c9
   ·have a9 := hm7 ▸ a8
    rw [hm7, mayP_yes c9] at E
    subst hm7
    have a10 := a9.next
    have hlen := a10.len
    repeat' (first | (apply gL; first | (apply Wl.ev rfl rfl; exact Zev) | ((show Wl _ _ _ _ _ _ _ (⟨some 57, .call ⟨.builtin .append, _, _⟩, _, _, _, _⟩ :: _) _ _); refine Wl.reC (H' := ⟨b, true, row [ptr bv] 77⟩ :: dcl bn tx t9.t t0.a ts.length o1 :: ⟨r, true, rdP lv (L.length - (s :: m).length)⟩ :: ((A ++ tnsH (ts ++ [tnNew bv 3 [] t.t 0 t.a kb 1 [n1]])) ++ ownH 77 o1)) Zd8 ?_; refine wl_append_own (m := ts.length) (k := 1) (o := o1) (xs := ptrs ts) (news := [ptr bv]) rfl rfl (slT rfl) (szT rfl) (byT rfl) (zeroT rfl) rfl rfl rfl hown Zd rfl (fun j v h => by simpa using h) Zc0 Zf7 Zcu Zf7 Zbw ?_; intro o2 hown2) | ((show Wl _ _ _ _ _ _ _ (⟨some 47, .buildSlice _ _ _, _, _, _, _⟩ :: _) _ _); apply wl_buildSlice rfl rfl (slT rfl) (szT rfl) (zeroT rfl) rfl Zf6 rfl; exact Zt; intro kb) | ((show Wl _ _ _ _ _ _ _ (⟨some 56, .buildSlice _ _ _, _, _, _, _⟩ :: _) _ _); apply wl_buildSlice rfl rfl (slT rfl) (szT rfl) (zeroT rfl) rfl Zf6 rfl; exact Zt; intro b) | (refine Zgj ?_; try simp only [List.set]) | (refine Zf8 ?_) | (refine lC 32 57 ?_; first | (refine Zhu ?_; intro q hq; clear hq q) | (refine Zhv ?_; (first | refine bad_end ?_ | refine bad_endM ?_); intro w hs)) | (refine lC 36 93 ?_; refine wl_callS rfl rfl has93 rfl Zbm ?_; intro bv hq; clear hq) | (refine lC 40 98 ?_; first | (refine Zi5 ?_; intro q hq; clear hq q) | (refine Zi8 ?_; intro q hq; clear hq q)) | (refine lC 46 99 ?_; first | (refine Zhz ?_; rintro n1 ⟨hok1, hp1⟩) | (refine Zh1 ?_; (first | refine bad_end ?_ | refine bad_endM ?_); intro w hs)) | (refine lC 28 98 ?_; first | (refine Zia ?_; intro q hq; clear hq q) | (refine Zic ?_; intro q hq; clear hq q)) | apply Wl.nil | (refine Zbd ?_; intro b) | (refine Zf9 ?_; try simp only [List.set]) | (apply wl_buildSlice rfl rfl (slT rfl) (szT rfl) (zeroT rfl) rfl Zf6 rfl; exact Zt; intro b)) | (apply gQ; first | (apply Wq.ev rfl rfl; exact Zev)) | (apply lW; first | apply W.seq | apply W.region | apply W.block | apply W.blk | apply W.skip | (refine Zbk ?_)))
    all_goals (refine W.reC (H' := dcl bn tx t9.t t0.a (ts ++ [tnNew bv 3 [] t.t 0 t.a kb 1 [n1]]).length o2 :: ⟨r, true, rdP lv (L.length - m.length)⟩ :: ((A ++ tnsH (ts ++ [tnNew bv 3 [] t.t 0 t.a kb 1 [n1]])) ++ ownH 77 o2)) Zfj ?_; exact W.again (true, g, ts ++ [tnNew bv 3 [] t.t 0 t.a kb 1 [n1]], o2, m) ⟨by dsimp only; omega, tnsOk_app hok (tnsOk1 (tnOk_new rfl Zf6 (tnsOk1 hok1))), by dsimp only; rw [len_snoc ts, ptrs_snoc ts]; exact hown2, by dsimp only; rw [len_snoc ts]; simp only [List.length_cons] at *; omega, by dsimp only; rw [← hlen]; exact a10, fun _ => by dsimp only; rw [tnsP_app, tnsP1, tnP_new, tnsP1, hp1]; exact E, fun h => by cases h⟩ Zfi Zn (List.Sublist.refl _))
   ·rw [mayP_no c9] at E
    cases E
    repeat' (first | (apply gL; first | (apply Wl.ev rfl rfl; exact Zev) | ((show Wl _ _ _ _ _ _ _ (⟨some 57, .call ⟨.builtin .append, _, _⟩, _, _, _, _⟩ :: _) _ _); refine Wl.reC (H' := ⟨b, true, row [ptr bv] 77⟩ :: dcl bn tx t9.t t0.a ts.length o1 :: ⟨r, true, rdP lv (L.length - lq.length)⟩ :: ((A ++ tnsH (ts ++ [tnNew bv 3 [] t.t 0 t.a kb 1 [n1]])) ++ ownH 77 o1)) Zd8 ?_; refine wl_append_own (m := ts.length) (k := 1) (o := o1) (xs := ptrs ts) (news := [ptr bv]) rfl rfl (slT rfl) (szT rfl) (byT rfl) (zeroT rfl) rfl rfl rfl hown Zd rfl (fun j v h => by simpa using h) Zc0 Zf7 Zcu Zf7 Zbw ?_; intro o2 hown2) | ((show Wl _ _ _ _ _ _ _ (⟨some 47, .buildSlice _ _ _, _, _, _, _⟩ :: _) _ _); apply wl_buildSlice rfl rfl (slT rfl) (szT rfl) (zeroT rfl) rfl Zf6 rfl; exact Zt; intro kb) | ((show Wl _ _ _ _ _ _ _ (⟨some 56, .buildSlice _ _ _, _, _, _, _⟩ :: _) _ _); apply wl_buildSlice rfl rfl (slT rfl) (szT rfl) (zeroT rfl) rfl Zf6 rfl; exact Zt; intro b) | (refine Zgj ?_; try simp only [List.set]) | (refine Zf8 ?_) | (refine lC 32 57 ?_; first | (refine Zhu ?_; intro q hq; clear hq q) | (refine Zhv ?_; (first | refine bad_end ?_ | refine bad_endM ?_); intro w hs)) | (refine lC 36 93 ?_; refine wl_callS rfl rfl has93 rfl Zbm ?_; intro bv hq; clear hq) | (refine lC 40 98 ?_; first | (refine Zi5 ?_; intro q hq; clear hq q) | (refine Zi8 ?_; intro q hq; clear hq q)) | (refine lC 46 99 ?_; first | (refine Zhz ?_; rintro n1 ⟨hok1, hp1⟩) | (refine Zh1 ?_; (first | refine bad_end ?_ | refine bad_endM ?_); intro w hs)) | (refine lC 28 98 ?_; first | (refine Zia ?_; intro q hq; clear hq q) | (refine Zic ?_; intro q hq; clear hq q)) | apply Wl.nil | (refine Zbd ?_; intro b) | (refine Zf9 ?_; try simp only [List.set]) | (apply wl_buildSlice rfl rfl (slT rfl) (szT rfl) (zeroT rfl) rfl Zf6 rfl; exact Zt; intro b)) | (apply gQ; first | (apply Wq.ev rfl rfl; exact Zev)) | (apply lW; first | apply W.seq | apply W.region | apply W.block | apply W.blk | apply W.skip | (refine Zbk ?_)))
    all_goals (refine W.reC (H' := dcl bn tx t9.t t0.a (ts ++ [tnNew bv 3 [] t.t 0 t.a kb 1 [n1]]).length o2 :: ⟨r, true, rdP lv (L.length - lq.length)⟩ :: ((A ++ tnsH (ts ++ [tnNew bv 3 [] t.t 0 t.a kb 1 [n1]])) ++ ownH 77 o2)) (by rw [len_snoc ts]; intro e; simp only [dcl, List.count_append, cnt_cons]; omega) ?_; exact W.again (false, g, ts ++ [tnNew bv 3 [] t.t 0 t.a kb 1 [n1]], o2, lq) ⟨by dsimp only; omega, tnsOk_app hok (tnsOk1 (tnOk_new rfl Zf6 (tnsOk1 hok1))), by dsimp only; rw [len_snoc ts, ptrs_snoc ts]; exact hown2, by dsimp only; rw [len_snoc ts]; simp only [List.length_cons] at *; omega, by exact a8, fun h => (by cases h), fun _ => ⟨by dsimp only; rw [tnsP_app, tnsP1, tnP_new, tnsP1, hp1], rfl⟩⟩ Zfi Zn (List.Sublist.refl _))
 ·rw [mayP_no c7] at E
  cases g with
  | zero => rw [pF] at E; cases E
  | succ g =>
  rw [pF] at E
  rcases may_cases [[44]] l6 with ⟨s, m, hm7, c9⟩ | c9
  ·have a9 := hm7 ▸ a6
   rw [hm7, mayP_yes c9] at E
   subst hm7
   have a10 := a9.next
   have hlen := a10.len
   repeat' (first | (apply gL; first | (apply Wl.ev rfl rfl; exact Zev) | ((show Wl _ _ _ _ _ _ _ (⟨some 57, .call ⟨.builtin .append, _, _⟩, _, _, _, _⟩ :: _) _ _); refine Wl.reC (H' := ⟨b, true, row [ptr bv] 77⟩ :: dcl bn tx t9.t t0.a ts.length o1 :: ⟨r, true, rdP lv (L.length - (t :: s :: m).length + 1)⟩ :: ((A ++ tnsH (ts ++ [Tn.mk bv 3 [] t.t 0 t.a none []])) ++ ownH 77 o1)) Zel ?_; refine wl_append_own (m := ts.length) (k := 1) (o := o1) (xs := ptrs ts) (news := [ptr bv]) rfl rfl (slT rfl) (szT rfl) (byT rfl) (zeroT rfl) rfl rfl rfl hown Zd rfl (fun j v h => by simpa using h) Zc0 Zf7 Zcu Zf7 Zbw ?_; intro o2 hown2) | ((show Wl _ _ _ _ _ _ _ (⟨some 56, .buildSlice _ _ _, _, _, _, _⟩ :: _) _ _); apply wl_buildSlice rfl rfl (slT rfl) (szT rfl) (zeroT rfl) rfl Zf6 rfl; exact Zt; intro b) | (refine Zgj ?_; try simp only [List.set]) | (refine Zf8 ?_) | (refine lC 32 57 ?_; first | (refine Zhu ?_; intro q hq; clear hq q) | (refine Zhv ?_; (first | refine bad_end ?_ | refine bad_endM ?_); intro w hs)) | (refine lC 36 93 ?_; refine wl_callS rfl rfl has93 rfl Zbm ?_; intro bv hq; clear hq) | (refine lC 40 98 ?_; first | (refine Zi5 ?_; intro q hq; clear hq q) | (refine Zi8 ?_; intro q hq; clear hq q)) | (refine lC 28 98 ?_; first | (refine Zia ?_; intro q hq; clear hq q) | (refine Zic ?_; intro q hq; clear hq q)) | apply Wl.nil | (refine Zbd ?_; intro b) | (apply wl_buildSlice rfl rfl (slT rfl) (szT rfl) (zeroT rfl) rfl Zf6 rfl; exact Zt; intro b)) | (apply gQ; first | (apply Wq.ev rfl rfl; exact Zev)) | (apply lW; first | apply W.seq | apply W.region | apply W.block | apply W.blk | apply W.skip | (refine Zbk ?_) | (refine Zbg ?_)))
   all_goals (refine W.reC (H' := dcl bn tx t9.t t0.a (ts ++ [Tn.mk bv 3 [] t.t 0 t.a none []]).length o2 :: ⟨r, true, rdP lv (L.length - m.length)⟩ :: ((A ++ tnsH (ts ++ [Tn.mk bv 3 [] t.t 0 t.a none []])) ++ ownH 77 o2)) Zfj ?_; exact W.again (true, g, ts ++ [Tn.mk bv 3 [] t.t 0 t.a none []], o2, m) ⟨by dsimp only; omega, tnsOk_app hok (tnsOk1 (tnOk_leaf)), by dsimp only; rw [len_snoc ts, ptrs_snoc ts]; exact hown2, by dsimp only; rw [len_snoc ts]; simp only [List.length_cons] at *; omega, by dsimp only; rw [← hlen]; exact a10, fun _ => by dsimp only; rw [tnsP_app, tnsP1, tnP_leaf]; exact E, fun h => by cases h⟩ Zfi Zn (List.Sublist.refl _))
  ·rw [mayP_no c9] at E
   cases E
   repeat' (first | (apply gL; first | (apply Wl.ev rfl rfl; exact Zev) | ((show Wl _ _ _ _ _ _ _ (⟨some 57, .call ⟨.builtin .append, _, _⟩, _, _, _, _⟩ :: _) _ _); refine Wl.reC (H' := ⟨b, true, row [ptr bv] 77⟩ :: dcl bn tx t9.t t0.a ts.length o1 :: ⟨r, true, rdP lv (L.length - (t :: lq).length + 1)⟩ :: ((A ++ tnsH (ts ++ [Tn.mk bv 3 [] t.t 0 t.a none []])) ++ ownH 77 o1)) Zel ?_; refine wl_append_own (m := ts.length) (k := 1) (o := o1) (xs := ptrs ts) (news := [ptr bv]) rfl rfl (slT rfl) (szT rfl) (byT rfl) (zeroT rfl) rfl rfl rfl hown Zd rfl (fun j v h => by simpa using h) Zc0 Zf7 Zcu Zf7 Zbw ?_; intro o2 hown2) | ((show Wl _ _ _ _ _ _ _ (⟨some 56, .buildSlice _ _ _, _, _, _, _⟩ :: _) _ _); apply wl_buildSlice rfl rfl (slT rfl) (szT rfl) (zeroT rfl) rfl Zf6 rfl; exact Zt; intro b) | (refine Zgj ?_; try simp only [List.set]) | (refine Zf8 ?_) | (refine lC 32 57 ?_; first | (refine Zhu ?_; intro q hq; clear hq q) | (refine Zhv ?_; (first | refine bad_end ?_ | refine bad_endM ?_); intro w hs)) | (refine lC 36 93 ?_; refine wl_callS rfl rfl has93 rfl Zbm ?_; intro bv hq; clear hq) | (refine lC 40 98 ?_; first | (refine Zi5 ?_; intro q hq; clear hq q) | (refine Zi8 ?_; intro q hq; clear hq q)) | (refine lC 28 98 ?_; first | (refine Zia ?_; intro q hq; clear hq q) | (refine Zic ?_; intro q hq; clear hq q)) | apply Wl.nil | (refine Zbd ?_; intro b) | (apply wl_buildSlice rfl rfl (slT rfl) (szT rfl) (zeroT rfl) rfl Zf6 rfl; exact Zt; intro b)) | (apply gQ; first | (apply Wq.ev rfl rfl; exact Zev)) | (apply lW; first | apply W.seq | apply W.region | apply W.block | apply W.blk | apply W.skip | (refine Zbk ?_) | (refine Zbg ?_)))
   all_goals (refine W.reC (H' := dcl bn tx t9.t t0.a (ts ++ [Tn.mk bv 3 [] t.t 0 t.a none []]).length o2 :: ⟨r, true, rdP lv (L.length - lq.length)⟩ :: ((A ++ tnsH (ts ++ [Tn.mk bv 3 [] t.t 0 t.a none []])) ++ ownH 77 o2)) (by rw [← a6.len, len_snoc ts]; intro e; simp only [dcl, List.count_append, cnt_cons]; omega) ?_; exact W.again (false, g, ts ++ [Tn.mk bv 3 [] t.t 0 t.a none []], o2, lq) ⟨by dsimp only; omega, tnsOk_app hok (tnsOk1 (tnOk_leaf)), by dsimp only; rw [len_snoc ts, ptrs_snoc ts]; exact hown2, by dsimp only; rw [len_snoc ts]; simp only [List.length_cons] at *; omega, by dsimp only; rw [← a6.len]; exact a6, fun h => (by cases h), fun _ => ⟨by dsimp only; rw [tnsP_app, tnsP1, tnP_leaf], rfl⟩⟩ Zfi Zn (List.Sublist.refl _))
end Go.Proofs.YtbinaeemcidicaaGreatDoor
