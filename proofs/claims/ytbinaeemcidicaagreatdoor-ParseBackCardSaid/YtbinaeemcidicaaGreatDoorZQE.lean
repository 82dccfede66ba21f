/- Walks: the whole of a shader. No condition. -/
import Derived.Test.YtbinaeemcidicaaGreatDoorZQB
set_option maxRecDepth 100000
set_option maxHeartbeats 16000000
namespace Go.Proofs.YtbinaeemcidicaaGreatDoor
open Go.PB Go.RowKit
attribute [local irreducible] Go.Calls
theorem pqu {s : List UInt8} {b : Bool} (w : World) (h : isQua s = b) : Calls Tryz.prog 56 #[st s] w (Give (.bool b) w) := by
 rw [← h]
 exact qual_ok s w
theorem ppkc {M : List Nat} {w0 w : World} {H TR : List Ent} {r a : Nat} {lv : Value} {L l : List Ti} {t : Ti} (hst : St M w0 w H) (hr : (⟨r, true, rdP lv a⟩ : Ent) ∈ H) (hT : TokE TR r lv L) (hm : ∀ p ∈ TR, p ∈ H) (hl : At L a (t :: l)) :
  Calls Tryz.prog 55 #[ptr r, .int .i64 0] w (Give (tiV t) w) := ppk0 hst hr hT hm hl
theorem qua_ne {s : List UInt8} (h : isQua s = true) : ¬s = [] := by
 rintro rfl
 exact absurd h Zf6
theorem shad_ok {f : Nat} (ihd : ∀ (t0 t9 : Ti) (tx : List UInt8), NodeC f (.decl t0.a t9.t tx) 62 [tiV t0, tiV t9, st tx]) (ihf : ∀ t0 : Ti, NodeC f (.func t0) 61 [tiV t0])
  {M : List Nat} {w0 w : World} {H : List Ent} {K : List Ent → List Ent} {TR : List Ent} {r a : Nat} {lv : Value} {L l l' : List Ti} {q : Option (List Pt)}
  (hst : St M w0 w H) (hu : UpdT H r (rdP lv a) (rdP lv (L.length - l'.length)) K) (hT : TokE TR r lv L) (hm : ∀ p ∈ TR, p ∈ H) (hl : At L a l) (e : pF f (.shad []) l = some (q, l')) :
  Calls Tryz.prog 30 #[ptr r] w (NodeR (q.map fun ps => [.mk 1 [] [] 0 0 ps]) M w0 K) := by
 (obtain ⟨A, p1, p2⟩ := hu.front; have hTA : ∀ e ∈ TR, e ∈ A := fun e he => mem_front p1 (hm e he) (hT.2.1 e he); have hst1 := hst.perm p1; have hlim := hT.2.2.1)
 obtain ⟨lp, lc, rfl⟩ := hT.1.len
 (refine calls_of_W (vs := [ptr r]) Tryz.func30 rfl Tryz.ntmps30 (Nat.le_of_ble_eq_true rfl) hst1.fromHere ?_; simp only [argL])
 repeat' (first | (apply gL; first | (apply Wl.ev rfl rfl; exact Zev) | (refine lB 9 ?_; refine wl_box rfl rfl rfl rfl ?_; intro bn) | apply Wl.nil) | (apply gQ; first | (apply Wq.ev rfl rfl; exact Zev)) | (apply lW; first | apply W.seq | (refine W.reC (H' := ⟨bn, true, ndO 1 [] [] 0 0 (ownV ([] : List Tn).length none)⟩ :: ⟨r, true, rdP (.slice lp L.length lc) (L.length - l.length)⟩ :: ((A ++ tnsH []) ++ ownH 77 none)) (by rw [← hl.len]; intro e; simp only [row_nd, List.count_append, cnt_cons, List.count_nil, ownH, ownV, tnsH]; omega) ?_; refine W.loop (X := Nat × List Tn × Ow × List Ti) (fun x => [(0, ptr r), (3, ptr bn)]) (fun x => ⟨bn, true, ndO 1 [] [] 0 0 (ownV x.2.1.length x.2.2.1)⟩ :: ⟨r, true, rdP (.slice lp L.length lc) (L.length - x.2.2.2.length)⟩ :: ((A ++ tnsH x.2.1) ++ ownH 77 x.2.2.1)) (fun x => x.1 ≤ f ∧ tnsOk x.2.1 ∧ ownOk x.2.1.length 1 (ptrs x.2.1) x.2.2.1 ∧ x.2.1.length + x.2.2.2.length ≤ L.length ∧ At L (L.length - x.2.2.2.length) x.2.2.2 ∧ pF x.1 (.shad (tnsP x.2.1)) x.2.2.2 = some (q, l')) (fun x => x.1) (f, [], none, l) ⟨Nat.le_refl _, by rw [tnsOk]; trivial, ⟨rfl, rfl⟩, by have := hl.le; simp only [List.length_nil]; omega, by rw [← hl.len]; exact hl, by rw [tnsP]; exact e⟩ Zn (List.Sublist.refl _) ?_) | apply W.region | apply W.block))
 rintro ⟨g, ts, o1, l5⟩ ⟨hg, hok, hown, hlen5, at5, e⟩
 dsimp only at hg hok hown hlen5 at5 e ⊢
 cases g with
 | zero => rw [pF] at e; cases e
 | succ g =>
 rw [pF] at e
 have hle5 := at5.le
 cases l5 with
 | nil =>
  rw [if_pos rfl] at e
  cases e
  simp only [List.length_nil, Nat.sub_zero] at p2 ⊢
  repeat' (first | (apply gL; first | (apply Wl.ev rfl rfl; exact Zev) | apply Wl.nil) | (apply gQ; first | (apply Wq.ev rfl rfl; exact Zev) | apply Wq.nil) | (apply lW; first | apply W.seq | (refine Zgf ?_) | apply W.region | (refine Zcm ?_) | (refine Zz ?_ ?_ <;> (intro h; try exact Zg)) | (refine Zba ?_; intro w hs)))
  all_goals first | exact GivesS.ofC hst1 hs (.mk bn 1 [] [] 0 0 o1 ts) ⟨by rw [tnOk]; exact ⟨hown, hok⟩, by rw [tnP]; rfl⟩ rfl Zd7 | exact Zy
 | cons t l6 =>
 have hlt : L.length - (t :: l6).length < L.length := by simp only [List.length_cons] at *; omega
 have hl6 : l6.length + 1 = (t :: l6).length := rfl
 have a6 := at5.next
 rw [if_neg Zgh] at e
 by_cases hk : t.k = 1
 rotate_left
 have ht : okT typedT (t :: l6) = false := by
  show typedT t = false
  unfold typedT
  rw [decide_eq_false hk, Bool.false_and]
 rw [if_neg (by show ¬(decide (t.k = 1) && isQua t.t) = true; rw [decide_eq_false hk, Bool.false_and]; simp), tkP_bad ht] at e
 cases e
 rotate_right
 cases hq : isQua t.t
 rotate_left
 ·have hne := qua_ne hq
  rw [if_pos (by show (decide (t.k = 1) && isQua t.t) = true; rw [decide_eq_true hk, hq]; rfl)] at e
  change tkP typedT l6 _ = _ at e
  rcases tk_cases typedT l6 with ⟨u, l7, rfl, c7⟩ | c7
  rotate_left
  rw [tkP_bad c7] at e
  cases e
  rw [← a6.len] at p2
  replace p2 : ∀ T, List.Perm (K T) (⟨r, true, row [.slice lp L.length lc, .int .i64 (((L.length - (t :: l').length : Nat) : Int) + 1)] 75⟩ :: (A ++ T)) := p2
  rotate_right
  rw [tkP_ok c7] at e
  have a7 := a6.next
  have hl7 : l7.length + 1 = (u :: l7).length := rfl
  change bndP (pF g (.decl t.a u.t t.t) l7) _ = _ at e
  rcases bnd_cases e with ⟨e8, rfl⟩ | ⟨ps, l8, e8, e⟩
  have e8 := pF_mono (show g ≤ f by omega) e8
  rotate_left
  have hle := (pF_good g _ _ _ _ e8).1.length_le
  have e8 := pF_mono (show g ≤ f by omega) e8
  have a8 := a7.step e8
  all_goals ((repeat' (first | (apply gL; first | (apply Wl.ev rfl rfl; exact Zev) | (refine lA 4 ?_; refine wl_alloc rfl rfl (zeroT rfl) ?_; intro b4) | (refine lA 6 ?_; refine wl_alloc rfl rfl (zeroT rfl) ?_; intro b6) | (refine Zgj ?_; try simp only [List.set]) | (refine Zf8 ?_) | (refine lD 56 ?_; refine wl_call0 rfl rfl has56 rfl (fun w hs => pqu w Zf5) ?_) | (refine lC 21 55 ?_; refine wl_call0 rfl rfl has55 rfl (fun w hs => ppkc hs Zd hT Zc Zf5) ?_) | (refine lC 75 62 ?_; first | (refine wl_callS rfl rfl has62 rfl (fun w hs => node_ok (ihd t u t.t) hs Zf5 Zf5 Zh hT Zc) ?_; rintro n1 ⟨hok1, hp1⟩) | (refine wl_callB0 rfl has62 rfl (fun w hs => node_bad (ihd t u t.t) hs Zf5 Zf5 Zh hT Zc) ?_; (first | refine bad_end ?_ | refine bad_endM ?_); intro w hs)) | ((show Wl _ _ _ _ _ _ _ (⟨some 77, .call ⟨.builtin .append, _, _⟩, _, _, _, _⟩ :: _) _ _); refine Wl.reC (H' := ⟨b, true, row [ptr n1.b] 77⟩ :: (⟨b6, true, row (tiC u) 67⟩ : Ent) :: (⟨b4, true, row (tiC t) 67⟩ : Ent) :: (⟨bn, true, ndO 1 [] [] 0 0 (ownV ts.length o1)⟩ : Ent) :: ⟨r, true, rdP (.slice lp L.length lc) (L.length - l8.length)⟩ :: ((A ++ tnsH (ts ++ [n1])) ++ ownH 77 o1)) Zch ?_; refine wl_append_own (m := ts.length) (k := 1) (o := o1) (xs := ptrs ts) (news := [ptr n1.b]) rfl rfl (slT rfl) (szT rfl) (byT rfl) (zeroT rfl) rfl rfl rfl hown Zd rfl (fun j v h => by simpa using h) Zc0 Zf7 Zcu Zf7 Zbw ?_; intro o2 hown2) | (refine lC 40 57 ?_; first | (refine Zi0 ?_; intro q hq; clear hq q) | (refine Zi3 ?_; (first | refine bad_end ?_ | refine bad_endM ?_); intro w hs)) | apply Wl.nil | (refine Zbr ?_) | (refine Zf9 ?_; try simp only [List.set]) | (apply wl_buildSlice rfl rfl (slT rfl) (szT rfl) (zeroT rfl) rfl Zf6 rfl; exact Zt; intro b) | ((fail_if_success (apply Wl.chk rfl)); refine Wl.split rfl rfl ?_ ?_ <;> (intro h; try exact Za))) | (apply gQ; first | (apply Wq.ev rfl rfl; exact Zev) | apply Wq.nil) | (apply lW; first | apply W.seq | ((show W _ _ _ _ _ _ (.inl (.region 11 _ true) :: _) _ _); refine W.regionM [14] [] [(⟨b6, true, row (tiC u) 67⟩ : Ent), (⟨b4, true, row (tiC t) 67⟩ : Ent), (⟨bn, true, ndO 1 [] [] 0 0 (ownV ts.length o1)⟩ : Ent)] mixed ?_) | (refine Zgf ?_) | apply W.region | apply W.block | apply W.blk | apply W.skip | (refine Zbk ?_) | (refine Zbg ?_) | (refine Zz ?_ ?_ <;> (intro h; try exact Za))) | ((show Wm _ _ _ _ _ _ _ _ _ _ _ _ _ _ _ _); first | ((refine Zgg ?_)) | (refine Zgq ?_) | (refine Zgs ?_) | (refine Zhs ?_) | (refine Ziy ?_) | (refine Zim ?_) | ((fail_if_success (refine Zbn ?_)); (refine Zgc ?_ ?_ <;> (intro h; try exact Za))) | ((fail_if_success (refine Zbn ?_)); (refine Zga ?_ ?_ <;> (intro h; try exact Za))) | apply Wm.next) | apply AllO.nil | apply AllO.cons | (refine Or.inl Zk) | ((show _ ∨ Wl _ _ _ _ _ _ _ _ _ _); apply Or.inr) | (refine Zgt ?_))); all_goals first | exact BadS.ofC hst1 hs Zo | (refine Zjc ?_; exact W.again (g, ts ++ [n1], o2, l8) ⟨by omega, tnsOk_app hok (tnsOk1 hok1), by simpa using hown2, by dsimp only; rw [len_snoc ts n1]; omega, a8, by rw [tnsP_app, tnsP1, hp1]; exact e⟩ Ze6 Zn (List.Sublist.refl _)) | contradiction | exact Zy | fail)
 rotate_left
 rw [if_neg (by show ¬(decide (t.k = 1) && isQua t.t) = true; rw [hq, Bool.and_false]; simp)] at e
 rcases tk_cases typedT (t :: l6) with ⟨u, l7, hu7, c7⟩ | c7
 rotate_left
 rw [tkP_bad c7] at e
 cases e
 rotate_right
 cases hu7
 rw [tkP_ok c7] at e
 cases cn : namedT (l6.headD ti0)
 rw [if_neg (by rw [cn]; simp)] at e
 rcases bnd_cases e with ⟨e8, rfl⟩ | ⟨ps, l8, e8, e⟩
 have e8 := pF_mono (show g ≤ f by omega) e8
 rotate_left
 have hle := (pF_good g _ _ _ _ e8).1.length_le
 have e8 := pF_mono (show g ≤ f by omega) e8
 have a8 := a6.step e8
 rotate_left
 cases ci : isA [[40]] ((l6.drop 1).headD ti0)
 rw [if_neg (by rw [ci]; simp)] at e
 rcases bnd_cases e with ⟨e8, rfl⟩ | ⟨ps, l8, e8, e⟩
 have e8 := pF_mono (show g ≤ f by omega) e8
 rotate_left
 have hle := (pF_good g _ _ _ _ e8).1.length_le
 have e8 := pF_mono (show g ≤ f by omega) e8
 have a8 := a6.step e8
 rotate_left
 rw [if_pos ⟨cn, ci⟩] at e
 rcases bnd_cases e with ⟨e8, rfl⟩ | ⟨ps, l8, e8, e⟩
 have e8 := pF_mono (show g ≤ f by omega) e8
 rotate_left
 have hle := (pF_good g _ _ _ _ e8).1.length_le
 have e8 := pF_mono (show g ≤ f by omega) e8
 have a8 := a6.step e8
 all_goals ((repeat' (first | (apply gL; first | (apply Wl.ev rfl rfl; exact Zev) | (refine lA 4 ?_; refine wl_alloc rfl rfl (zeroT rfl) ?_; intro b4) | (refine lA 6 ?_; refine wl_alloc rfl rfl (zeroT rfl) ?_; intro b6) | (refine Zgj ?_; try simp only [List.set]) | (refine Zf8 ?_) | (refine lD 56 ?_; refine wl_call0 rfl rfl has56 rfl (fun w hs => pqu w Zf5) ?_) | (refine lD 59 ?_; refine wl_call0 rfl rfl has59 rfl Zdv ?_) | (refine lC 52 60 ?_; refine wl_call0 rfl rfl has60 rfl Zht ?_) | (refine lC 21 55 ?_; refine wl_call0 rfl rfl has55 rfl (fun w hs => ppkc hs Zd hT Zc Zf5) ?_) | (refine lC 45 55 ?_; refine wl_call0 rfl rfl has55 rfl Ziz ?_) | (refine lC 50 55 ?_; refine wl_call0 rfl rfl has55 rfl Zl9 ?_) | (refine lC 61 61 ?_; first | (refine wl_callS rfl rfl has61 rfl (fun w hs => node_ok (ihf _) hs Zf5 Zf5 Zh hT Zc) ?_; rintro n1 ⟨hok1, hp1⟩) | (refine wl_callB0 rfl has61 rfl (fun w hs => node_bad (ihf _) hs Zf5 Zf5 Zh hT Zc) ?_; (first | refine bad_end ?_ | refine bad_endM ?_); intro w hs)) | (refine lC 75 62 ?_; first | (refine wl_callS rfl rfl has62 rfl (fun w hs => node_ok (ihd t t []) hs Zf5 Zf5 Zh hT Zc) ?_; rintro n1 ⟨hok1, hp1⟩) | (refine wl_callB0 rfl has62 rfl (fun w hs => node_bad (ihd t t []) hs Zf5 Zf5 Zh hT Zc) ?_; (first | refine bad_end ?_ | refine bad_endM ?_); intro w hs)) | ((show Wl _ _ _ _ _ _ _ (⟨some 63, .call ⟨.builtin .append, _, _⟩, _, _, _, _⟩ :: _) _ _); refine Wl.reC (H' := ⟨b, true, row [ptr n1.b] 77⟩ :: (⟨b6, true, row (tiC t) 67⟩ : Ent) :: (⟨b4, true, row (tiC t) 67⟩ : Ent) :: (⟨bn, true, ndO 1 [] [] 0 0 (ownV ts.length o1)⟩ : Ent) :: ⟨r, true, rdP (.slice lp L.length lc) (L.length - l8.length)⟩ :: ((A ++ tnsH (ts ++ [n1])) ++ ownH 77 o1)) Zch ?_; refine wl_append_own (m := ts.length) (k := 1) (o := o1) (xs := ptrs ts) (news := [ptr n1.b]) rfl rfl (slT rfl) (szT rfl) (byT rfl) (zeroT rfl) rfl rfl rfl hown Zd rfl (fun j v h => by simpa using h) Zc0 Zf7 Zcu Zf7 Zbw ?_; intro o2 hown2) | ((show Wl _ _ _ _ _ _ _ (⟨some 77, .call ⟨.builtin .append, _, _⟩, _, _, _, _⟩ :: _) _ _); refine Wl.reC (H' := ⟨b, true, row [ptr n1.b] 77⟩ :: (⟨b6, true, row (tiC t) 67⟩ : Ent) :: (⟨b4, true, row (tiC t) 67⟩ : Ent) :: (⟨bn, true, ndO 1 [] [] 0 0 (ownV ts.length o1)⟩ : Ent) :: ⟨r, true, rdP (.slice lp L.length lc) (L.length - l8.length)⟩ :: ((A ++ tnsH (ts ++ [n1])) ++ ownH 77 o1)) Zch ?_; refine wl_append_own (m := ts.length) (k := 1) (o := o1) (xs := ptrs ts) (news := [ptr n1.b]) rfl rfl (slT rfl) (szT rfl) (byT rfl) (zeroT rfl) rfl rfl rfl hown Zd rfl (fun j v h => by simpa using h) Zc0 Zf7 Zcu Zf7 Zbw ?_; intro o2 hown2) | (refine lC 40 57 ?_; first | (refine Zi0 ?_; intro q hq; clear hq q) | (refine Zi3 ?_; (first | refine bad_end ?_ | refine bad_endM ?_); intro w hs)) | apply Wl.nil | (refine Zbr ?_) | (apply wl_buildSlice rfl rfl (slT rfl) (szT rfl) (zeroT rfl) rfl Zf6 rfl; exact Zt; intro b) | ((fail_if_success (apply Wl.chk rfl)); refine Wl.split rfl rfl ?_ ?_ <;> (intro h; try exact Za))) | (apply gQ; first | (apply Wq.ev rfl rfl; exact Zev) | apply Wq.nil) | (apply lW; first | apply W.seq | ((show W _ _ _ _ _ _ (.inl (.region 10 _ true) :: _) _ _); refine W.regionM [12] [] [(⟨b6, true, row (tiC t) 67⟩ : Ent), (⟨b4, true, row (tiC t) 67⟩ : Ent), (⟨bn, true, ndO 1 [] [] 0 0 (ownV ts.length o1)⟩ : Ent)] mixed ?_) | ((show W _ _ _ _ _ _ (.inl (.region 11 _ true) :: _) _ _); refine W.regionM [14] [] [(⟨b6, true, row (tiC t) 67⟩ : Ent), (⟨b4, true, row (tiC t) 67⟩ : Ent), (⟨bn, true, ndO 1 [] [] 0 0 (ownV ts.length o1)⟩ : Ent)] mixed ?_) | (refine Zgf ?_) | apply W.region | apply W.block | apply W.blk | apply W.skip | (refine Zbk ?_) | (refine Zbg ?_) | (refine Zz ?_ ?_ <;> (intro h; try exact Za))) | ((show Wm _ _ _ _ _ _ _ _ _ _ _ _ _ _ _ _); first | ((refine Zgg ?_)) | (refine Zgq ?_) | (refine Zgs ?_) | (refine Zhs ?_) | (refine Ziy ?_) | (refine Zim ?_) | ((fail_if_success (refine Zbn ?_)); (refine Zgc ?_ ?_ <;> (intro h; try exact Za))) | ((fail_if_success (refine Zbn ?_)); (refine Zga ?_ ?_ <;> (intro h; try exact Za))) | apply Wm.next) | apply AllO.nil | apply AllO.cons | (refine Or.inl Zk) | ((show _ ∨ Wl _ _ _ _ _ _ _ _ _ _); apply Or.inr) | (refine Zgt ?_))); all_goals first | exact BadS.ofC hst1 hs Zo | (refine Zjc ?_; exact W.again (g, ts ++ [n1], o2, l8) ⟨by omega, tnsOk_app hok (tnsOk1 hok1), by simpa using hown2, by dsimp only; rw [len_snoc ts n1]; omega, a8, by rw [tnsP_app, tnsP1, hp1]; exact e⟩ Ze6 Zn (List.Sublist.refl _)) | contradiction | exact Zy | fail)
end Go.Proofs.YtbinaeemcidicaaGreatDoor
