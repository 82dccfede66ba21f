/- Walks: a block. No condition. -/
import Derived.Test.YtbinaeemcidicaaGreatZPT
set_option maxRecDepth 100000
set_option maxHeartbeats 16000000
namespace Go.Proofs.YtbinaeemcidicaaGreat
open Go.PB Go.RowKit
attribute [local irreducible] Go.Calls
theorem len_snoc (l : List Tn) (t : Tn) : (l ++ [t]).length = l.length + 1 := by simp
theorem own_one (n : Nat) (o : Ow) : (ownV n o).oneCell' = true := by cases o <;> rfl
theorem block_step {f : Nat} (ihs : NodeC f .stmt 102 []) : NodeC (f + 1) .blk 75 [] := by
 intro M w0 w H K TR r a lv L l l' o hst hu hT hm hl e
 (obtain ⟨A, p1, p2⟩ := hu.front; have hTA : ∀ e ∈ TR, e ∈ A := fun e he => mem_front p1 (hm e he) (hT.2.1 e he); have hst1 := hst.perm p1; have hlim := hT.2.2.1)
 rw [pF] at e
 rcases tk_cases (isA [[123]]) l with ⟨t, l1, rfl, c⟩ | c
 case inr =>
  rw [tkP_bad c] at e
  cases e
  rw [← hl.len] at p2
  (refine calls_of_W (vs := [ptr r]) Tryz.func75 rfl Tryz.ntmps75 (Nat.le_of_ble_eq_true rfl) hst1.fromHere ?_; simp only [argL])
  repeat' (first | (apply gL; first | (apply Wl.ev rfl rfl; exact Zev) | (refine lC 7 72 ?_; first | (refine Zh1 ?_; intro q hq; clear hq q) | (refine Zh2 ?_; (first | refine bad_end ?_ | refine bad_endM ?_); intro w hs)) | apply Wl.nil) | (apply gQ; first | (apply Wq.ev rfl rfl; exact Zev)) | (apply lW; first | apply W.seq | apply W.region))
  all_goals first | exact BadS.ofC hst1 hs Zn
 rw [tkP_ok c] at e
 have a1 := hl.next
 have key : ∃ q, pF f (.stms []) l1 = some (q, l') ∧ o = q.map fun ps => [.mk 6 [] [] 0 t.a ps] := by
  rcases bnd_cases e with ⟨e1, rfl⟩ | ⟨ps, l2, e1, e⟩
  ·exact ⟨none, e1, rfl⟩
  ·cases e
   exact ⟨some ps, e1, rfl⟩
 obtain ⟨q, eq1, rfl⟩ := key
 clear e
 (refine calls_of_W (vs := [ptr r]) Tryz.func75 rfl Tryz.ntmps75 (Nat.le_of_ble_eq_true rfl) hst1.fromHere ?_; simp only [argL])
 repeat' (first | (apply gL; first | (apply Wl.ev rfl rfl; exact Zev) | (refine lC 7 72 ?_; first | (refine Zh1 ?_; intro q hq; clear hq q) | (refine Zh2 ?_; (first | refine bad_end ?_ | refine bad_endM ?_); intro w hs)) | (refine lC 8 71 ?_; refine wl_callS rfl rfl has71 rfl Zbr ?_; intro bn hq; clear hq) | apply Wl.nil) | (apply gQ; first | (apply Wq.ev rfl rfl; exact Zev)) | (apply lW; first | apply W.seq | (refine W.reC (H' := ⟨bn, true, ndO 6 [] [] 0 t.a (ownV ([] : List Tn).length none)⟩ :: ⟨r, true, rdP lv (L.length - l1.length)⟩ :: ((A ++ tnsH []) ++ ownH 67 none)) (by rw [← a1.len]; intro e; simp only [List.count_append, cnt_cons, List.count_nil, ownH, ownV, tnsH]; omega) ?_; refine W.loop (X := Nat × List Tn × Ow × List Ti) (fun x => [(0, ptr r), (3, ptr bn)]) (fun x => ⟨bn, true, ndO 6 [] [] 0 t.a (ownV x.2.1.length x.2.2.1)⟩ :: ⟨r, true, rdP lv (L.length - x.2.2.2.length)⟩ :: ((A ++ tnsH x.2.1) ++ ownH 67 x.2.2.1)) (fun x => x.1 ≤ f ∧ tnsOk x.2.1 ∧ ownOk x.2.1.length 1 (ptrs x.2.1) x.2.2.1 ∧ x.2.1.length + x.2.2.2.length ≤ L.length ∧ At L (L.length - x.2.2.2.length) x.2.2.2 ∧ pF x.1 (.stms (tnsP x.2.1)) x.2.2.2 = some (q, l')) (fun x => x.1) (f, [], none, l1) ⟨Nat.le_refl _, by rw [tnsOk]; trivial, ⟨rfl, rfl⟩, by have := a1.le; simp only [List.length_nil]; omega, by rw [← a1.len]; exact a1, by rw [tnsP]; exact eq1⟩ Zm (List.Sublist.refl _) ?_) | apply W.region | apply W.block))
 rintro ⟨g, ts, o1, l5⟩ ⟨hg, hok, hown, hlen5, at5, e⟩
 dsimp only at hg hok hown hlen5 at5 e ⊢
 cases g with
 | zero => rw [pF] at e; cases e
 | succ g =>
 rw [pF] at e
 rcases may_cases [[125]] l5 with ⟨s5, l6, rfl, c5⟩ | c5
 ·rw [mayP_yes c5] at e
  have a2 := at5.next
  cases e
  have hlen : L.length - (s5 :: l').length + 1 = L.length - l'.length := a2.len
  rw [← hlen] at p2
  repeat' (first | (apply gL; first | (apply Wl.ev rfl rfl; exact Zev) | (refine Zf6 ?_) | (refine Zhl ?_; first | (refine Zlk ?_; intro q hq; clear hq q) | (refine Zlo ?_; intro q hq; clear hq q)) | apply Wl.nil | (refine Zu ?_; intro b) | (apply wl_buildSlice rfl rfl (slT rfl) (szT rfl) (zeroT rfl) rfl Zf7 rfl; exact Zq; intro b)) | (apply gQ; first | (apply Wq.ev rfl rfl; exact Zev)) | (apply lW; first | apply W.seq | apply W.region | apply W.block | (refine Zbh ?_) | (refine Zx ?_; intro w hs)))
  all_goals first | exact GivesS.ofC hst1 hs (.mk bn 6 [] [] 0 t.a o1 ts) ⟨by rw [tnOk]; exact ⟨hown, hok⟩, by rw [tnP]; rfl⟩ rfl Zes
 rw [mayP_no c5] at e
 rcases bnd_cases e with ⟨e6, rfl⟩ | ⟨ps, l6, e6, e⟩
 ·have e6 := pF_mono (show g ≤ f by omega) e6
  repeat' (first | (apply gL; first | (apply Wl.ev rfl rfl; exact Zev) | (refine Zf6 ?_) | (refine Zhl ?_; first | (refine Zlk ?_; intro q hq; clear hq q) | (refine Zlo ?_; intro q hq; clear hq q)) | (refine lC 23 102 ?_; first | (refine wl_callS rfl rfl has102 rfl (fun w hs => node_ok ihs hs Zf5 Zf5 Zk hT Zc) ?_; rintro t1 ⟨hok1, hp1⟩) | (refine wl_callB0 rfl has102 rfl (fun w hs => node_bad ihs hs Zf5 Zf5 Zk hT Zc) ?_; (first | refine bad_end ?_ | refine bad_endM ?_); intro w hs)) | apply Wl.nil | (refine Zu ?_; intro b) | (apply wl_buildSlice rfl rfl (slT rfl) (szT rfl) (zeroT rfl) rfl Zf7 rfl; exact Zq; intro b)) | (apply gQ; first | (apply Wq.ev rfl rfl; exact Zev)) | (apply lW; first | apply W.seq | ((show W _ _ _ _ _ _ (.inl (.region 5 _ true) :: _) _ _); refine W.regionM [11] [] [(⟨bn, true, ndO 6 [] [] 0 t.a (ownV ts.length o1)⟩ : Ent)] mixed ?_) | apply W.region | apply W.block | apply W.skip | (refine Zbc ?_)) | ((show Wm _ _ _ _ _ _ _ _ _ _ _ _ _ _ _ _); first | ((refine Zgg ?_)) | (refine Zgj ?_) | (refine Zgm ?_) | (refine Zid ?_) | (refine Zjf ?_) | (refine Zi6 ?_) | ((fail_if_success (refine Zba ?_)); (refine Zgd ?_ ?_ <;> (intro h; try exact Zh))) | ((fail_if_success (refine Zba ?_)); (refine Zgc ?_ ?_ <;> (intro h; try exact Zh))) | apply Wm.next) | apply AllO.nil | apply AllO.cons | (refine Or.inl Zj) | ((show _ ∨ Wl _ _ _ _ _ _ _ _ _ _); apply Or.inr) | (refine Zg2 ?_))
  all_goals first | exact BadS.ofC hst1 hs Zn
 ·have hle := (pF_good g .stmt l5 _ _ e6).2 rfl
  have hle' : l6.length + 1 ≤ l5.length := hle
  have e6 := pF_mono (show g ≤ f by omega) e6
  have a6 := at5.step e6
  repeat' (first | (apply gL; first | (apply Wl.ev rfl rfl; exact Zev) | (refine Zgt ?_; try simp only [List.set]) | (refine Zf6 ?_) | (refine Zhl ?_; first | (refine Zlk ?_; intro q hq; clear hq q) | (refine Zlo ?_; intro q hq; clear hq q)) | (refine lC 23 102 ?_; first | (refine wl_callS rfl rfl has102 rfl (fun w hs => node_ok ihs hs Zf5 Zf5 Zk hT Zc) ?_; rintro t1 ⟨hok1, hp1⟩) | (refine wl_callB0 rfl has102 rfl (fun w hs => node_bad ihs hs Zf5 Zf5 Zk hT Zc) ?_; (first | refine bad_end ?_ | refine bad_endM ?_); intro w hs)) | ((show Wl _ _ _ _ _ _ _ (⟨some 25, .call ⟨.builtin .append, _, _⟩, _, _, _, _⟩ :: _) _ _); refine Wl.reC (H' := ⟨b, true, row [ptr t1.b] 67⟩ :: (⟨bn, true, ndO 6 [] [] 0 t.a (ownV ts.length o1)⟩ : Ent) :: ⟨r, true, rdP lv (L.length - l6.length)⟩ :: ((A ++ tnsH (ts ++ [t1])) ++ ownH 67 o1)) Zcv ?_; refine wl_append_own (m := ts.length) (k := 1) (o := o1) (xs := ptrs ts) (news := [ptr t1.b]) rfl rfl (slT rfl) (szT rfl) (byT rfl) (zeroT rfl) rfl rfl rfl hown Zd rfl (fun j v h => by simpa using h) Zbn Zga Zbj Zga Zt ?_; intro o2 hown2) | apply Wl.nil | (refine Zu ?_; intro b) | (apply wl_buildSlice rfl rfl (slT rfl) (szT rfl) (zeroT rfl) rfl Zf7 rfl; exact Zq; intro b)) | (apply gQ; first | (apply Wq.ev rfl rfl; exact Zev)) | (apply lW; first | apply W.seq | ((show W _ _ _ _ _ _ (.inl (.region 5 _ true) :: _) _ _); refine W.regionM [11] [] [(⟨bn, true, ndO 6 [] [] 0 t.a (ownV ts.length o1)⟩ : Ent)] mixed ?_) | apply W.region | apply W.block | apply W.blk | apply W.skip | (refine Zbc ?_)) | ((show Wm _ _ _ _ _ _ _ _ _ _ _ _ _ _ _ _); first | ((refine Zgg ?_)) | (refine Zgj ?_) | (refine Zgm ?_) | (refine Zid ?_) | (refine Zjf ?_) | (refine Zi6 ?_) | ((fail_if_success (refine Zba ?_)); (refine Zgd ?_ ?_ <;> (intro h; try exact Zh))) | ((fail_if_success (refine Zba ?_)); (refine Zgc ?_ ?_ <;> (intro h; try exact Zh))) | apply Wm.next) | apply AllO.nil | apply AllO.cons | (refine Or.inl Zj) | ((show _ ∨ Wl _ _ _ _ _ _ _ _ _ _); apply Or.inr) | (refine Zg2 ?_))
  all_goals (refine W.reC (H' := ⟨bn, true, row [.int .i64 6, st [], st [], .int .i32 0, .slice none 0 0, .int .i64 t.a, ownV (ts ++ [t1]).length o2] 85⟩ :: ⟨r, true, rdP lv (L.length - l6.length)⟩ :: ((A ++ tnsH (ts ++ [t1])) ++ ownH 67 o2)) (by rw [len_snoc ts t1]; intro e; simp only [List.count_append, cnt_cons]; omega) ?_; exact W.again (g, ts ++ [t1], o2, l6) ⟨by omega, tnsOk_app hok (tnsOk1 hok1), by simpa using hown2, by dsimp only; rw [len_snoc ts t1]; omega, a6, by rw [tnsP_app, tnsP1, hp1]; exact e⟩ Zc1 Zm (List.Sublist.refl _))
end Go.Proofs.YtbinaeemcidicaaGreat
namespace Go.Proofs.YtbinaeemcidicaaGreat
open Go.PB Go.RowKit
attribute [local irreducible] Go.Calls
def chP (f : Nat) (l : List Ti) : Rp := tkP (isA [[105, 102]]) l fun t l => tkP (isA [[40]]) l fun _ l => bndP (pF f .expr l) fun ps l => tkP (isA [[41]]) l fun _ l => bndP (pF f .stmt l) fun qs l =>
 mayP [[101, 108, 115, 101]] l (fun _ l => bndP (pF f .stmt l) fun rs l => okP [.mk 7 [] [] 0 t.a [hdP ps, hdP qs, hdP rs]] l) (okP [.mk 7 [] [] 0 t.a [hdP ps, hdP qs]] l)
theorem own_row {e : TypeId} {kb n : Nat} {l : List Value} : ownH e (some (kb, n, l.toArray)) = [⟨kb, true, row l e⟩] := rfl
theorem choice_step {f : Nat} (ihe : NodeC f .expr 77 []) (ihs : NodeC f .stmt 102 []) : GenC (chP f) 113 [] := by
 intro M w0 w H K TR r a lv L l0 l' o hst hu hT hm a0 e
 (obtain ⟨A, p1, p2⟩ := hu.front; have hTA : ∀ e ∈ TR, e ∈ A := fun e he => mem_front p1 (hm e he) (hT.2.1 e he); have hst1 := hst.perm p1; have hlim := hT.2.2.1)
 unfold chP at e
 rcases tk_cases (isA [[105, 102]]) l0 with ⟨t1, l1, rfl, c1⟩ | c1
 rotate_left
 rw [tkP_bad c1] at e
 cases e
 rw [← a0.len] at p2
 rotate_right
 rw [tkP_ok c1] at e
 have a1 := a0.next
 rcases tk_cases (isA [[40]]) l1 with ⟨t2, l2, rfl, c2⟩ | c2
 rotate_left
 rw [tkP_bad c2] at e
 cases e
 rw [← a1.len] at p2
 rotate_right
 rw [tkP_ok c2] at e
 have a2 := a1.next
 rcases bnd_cases e with ⟨e3, rfl⟩ | ⟨p3, l3, e3, e⟩
 rotate_left
 have a3 := a2.step e3
 rcases tk_cases (isA [[41]]) l3 with ⟨t4, l4, rfl, c4⟩ | c4
 rotate_left
 rw [tkP_bad c4] at e
 cases e
 rw [← a3.len] at p2
 rotate_right
 rw [tkP_ok c4] at e
 have a4 := a3.next
 rcases bnd_cases e with ⟨e5, rfl⟩ | ⟨p5, l5, e5, e⟩
 rotate_left
 have a5 := a4.step e5
 rcases may_cases [[101, 108, 115, 101]] l5 with ⟨t6, l6, hl6, c6⟩ | c6
 ·have a6 := hl6 ▸ a5
  rw [hl6, mayP_yes c6] at e
  have a7 := a6.next
  rcases bnd_cases e with ⟨e8, rfl⟩ | ⟨p8, l8, e8, e⟩
  ·subst hl6
   (refine Zec ?_; simp only [argL])
   repeat' (first | (apply gL; first | (apply Wl.ev rfl rfl; exact Zev) | (refine Zey ?_; refine wl_alloc rfl rfl (zeroT rfl) ?_; intro b3) | ((show Wl _ _ _ _ _ _ _ (⟨some 14, .buildSlice _ _ _, _, _, _, _⟩ :: _) _ _); apply wl_buildSlice rfl rfl (slT rfl) (szT rfl) (zeroT rfl) rfl Zf7 rfl; exact Zq; intro kb) | (refine Zgt ?_; try simp only [List.set]) | (refine Zf6 ?_) | (refine lC 13 77 ?_; first | (refine Zk7 ?_; rintro n1 ⟨hok1, hp1⟩) | (refine Zlb ?_; (first | refine bad_end ?_ | refine bad_endM ?_); intro w hs)) | (refine lC 24 102 ?_; first | (refine Zk3 ?_; rintro n2 ⟨hok2, hp2⟩) | (refine Zk8 ?_; (first | refine bad_end ?_ | refine bad_endM ?_); intro w hs)) | (refine lC 42 102 ?_; first | (refine Zk4 ?_; rintro n3 ⟨hok3, hp3⟩) | (refine Zk9 ?_; (first | refine bad_end ?_ | refine bad_endM ?_); intro w hs)) | ((show Wl _ _ _ _ _ _ _ (⟨some 26, .call ⟨.builtin .append, _, _⟩, _, _, _, _⟩ :: _) _ _); refine Wl.reC (H' := ⟨b, true, row [ptr n2.b] 67⟩ :: (⟨bn, true, ndO 7 [] [] 0 t1.a (.slice (some ⟨kb, 0, none⟩) 1 1)⟩ : Ent) :: ⟨r, true, rdP lv (L.length - (t6 :: l6).length)⟩ :: ((A ++ (tnH n1 ++ tnH n2)) ++ ownH 67 (some (kb, 1, [ptr n1.b].toArray)))) Zle ?_; refine wl_append_own (m := 1) (k := 1) (o := some (kb, 1, [ptr n1.b].toArray)) (xs := [ptr n1.b]) (news := [ptr n2.b]) rfl rfl (slT rfl) (szT rfl) (byT rfl) (zeroT rfl) rfl rfl rfl ⟨Nat.le_refl _, (show 1 ≤ maxLen by decide), rfl, rfl, rfl⟩ Zd rfl (fun j v h => by simpa using h) Zbn Zga Zf7 Zga Zt ?_; intro o2 hown2) | (refine lC 32 76 ?_; first | (refine Zk0 ?_; intro q hq; clear hq q) | (refine Zk2 ?_; intro q hq; clear hq q)) | (refine lC 15 71 ?_; refine wl_callS rfl rfl has71 rfl Zbr ?_; intro bn hq; clear hq) | (refine lC _ 72 ?_; first | (refine Zh1 ?_; intro q hq; clear hq q) | (refine Zh2 ?_; (first | refine bad_end ?_ | refine bad_endM ?_); intro w hs)) | apply Wl.nil | (refine Zu ?_; intro b) | (apply wl_buildSlice rfl rfl (slT rfl) (szT rfl) (zeroT rfl) rfl Zf7 rfl; exact Zq; intro b)) | (apply gQ; first | (apply Wq.ev rfl rfl; exact Zev)) | (apply lW; first | apply W.seq | ((show W _ _ _ _ _ _ (.inl (.region 3 _ true) :: _) _ _); refine W.regionM [] [⟨b3, true, row (tiC t1) 42⟩] [⟨b3, true, row (tiC t1) 42⟩] mixed ?_) | ((show W _ _ _ _ _ _ (.inl (.region 5 _ true) :: _) _ _); refine W.regionM [11] [] [(⟨bn, true, ndO 7 [] [] 0 t1.a (.slice (some ⟨kb, 0, none⟩) 1 1)⟩ : Ent)] mixed ?_) | ((show W _ _ _ _ _ _ (.inl (.region 8 _ true) :: _) _ _); refine W.regionM [11] [] [(⟨bn, true, row [.int .i64 7, st [], st [], .int .i32 0, .slice none 0 0, .int .i64 t1.a, ownV (1 + 1) o2] 85⟩ : Ent)] mixed ?_) | apply W.region | (refine Zbh ?_)) | ((show Wm _ _ _ _ _ _ _ _ _ _ _ _ _ _ _ _); first | ((refine Zgg ?_)) | (refine Zgj ?_) | (refine Zgm ?_) | (refine Zid ?_) | (refine Zjf ?_) | (refine Zi6 ?_) | ((fail_if_success (refine Zba ?_)); (refine Zgd ?_ ?_ <;> (intro h; try exact Zh))) | ((fail_if_success (refine Zba ?_)); (refine Zgc ?_ ?_ <;> (intro h; try exact Zh))) | apply Wm.next) | apply AllO.nil | apply AllO.cons | (refine Or.inl Zj) | ((show _ ∨ Wl _ _ _ _ _ _ _ _ _ _); apply Or.inr) | (refine Zg2 ?_))
   all_goals first | exact BadS.ofC hst1 hs Zn
  ·subst hl6
   cases e
   (refine Zec ?_; simp only [argL])
   repeat' (first | (apply gL; first | (apply Wl.ev rfl rfl; exact Zev) | (refine Zey ?_; refine wl_alloc rfl rfl (zeroT rfl) ?_; intro b3) | ((show Wl _ _ _ _ _ _ _ (⟨some 14, .buildSlice _ _ _, _, _, _, _⟩ :: _) _ _); apply wl_buildSlice rfl rfl (slT rfl) (szT rfl) (zeroT rfl) rfl Zf7 rfl; exact Zq; intro kb) | (refine Zgt ?_; try simp only [List.set]) | (refine Zf6 ?_) | (refine lC 13 77 ?_; first | (refine Zk7 ?_; rintro n1 ⟨hok1, hp1⟩) | (refine Zlb ?_; (first | refine bad_end ?_ | refine bad_endM ?_); intro w hs)) | (refine lC 24 102 ?_; first | (refine Zk3 ?_; rintro n2 ⟨hok2, hp2⟩) | (refine Zk8 ?_; (first | refine bad_end ?_ | refine bad_endM ?_); intro w hs)) | (refine lC 42 102 ?_; first | (refine Zk4 ?_; rintro n3 ⟨hok3, hp3⟩) | (refine Zk9 ?_; (first | refine bad_end ?_ | refine bad_endM ?_); intro w hs)) | ((show Wl _ _ _ _ _ _ _ (⟨some 26, .call ⟨.builtin .append, _, _⟩, _, _, _, _⟩ :: _) _ _); refine Wl.reC (H' := ⟨b, true, row [ptr n2.b] 67⟩ :: (⟨bn, true, ndO 7 [] [] 0 t1.a (.slice (some ⟨kb, 0, none⟩) 1 1)⟩ : Ent) :: ⟨r, true, rdP lv (L.length - (t6 :: l6).length)⟩ :: ((A ++ (tnH n1 ++ tnH n2)) ++ ownH 67 (some (kb, 1, [ptr n1.b].toArray)))) Zle ?_; refine wl_append_own (m := 1) (k := 1) (o := some (kb, 1, [ptr n1.b].toArray)) (xs := [ptr n1.b]) (news := [ptr n2.b]) rfl rfl (slT rfl) (szT rfl) (byT rfl) (zeroT rfl) rfl rfl rfl ⟨Nat.le_refl _, (show 1 ≤ maxLen by decide), rfl, rfl, rfl⟩ Zd rfl (fun j v h => by simpa using h) Zbn Zga Zf7 Zga Zt ?_; intro o2 hown2) | ((show Wl _ _ _ _ _ _ _ (⟨some 44, .call ⟨.builtin .append, _, _⟩, _, _, _, _⟩ :: _) _ _); refine Wl.reC (H' := ⟨b, true, row [ptr n3.b] 67⟩ :: (⟨bn, true, row [.int .i64 7, st [], st [], .int .i32 0, .slice none 0 0, .int .i64 t1.a, ownV (1 + 1) o2] 85⟩ : Ent) :: ⟨r, true, rdP lv (L.length - l'.length)⟩ :: ((A ++ (tnH n1 ++ (tnH n2 ++ tnH n3))) ++ ownH 67 o2)) Zcz ?_; refine wl_append_own (m := 1 + 1) (k := 1) (o := o2) (xs := [ptr n1.b] ++ [ptr n2.b]) (news := [ptr n3.b]) rfl rfl (slT rfl) (szT rfl) (byT rfl) (zeroT rfl) rfl rfl rfl hown2 Zd rfl (fun j v h => by simpa using h) Zbn Zga Zf7 Zga Zt ?_; intro o3 hown3) | (refine lC 32 76 ?_; first | (refine Zk0 ?_; intro q hq; clear hq q) | (refine Zk2 ?_; intro q hq; clear hq q)) | (refine lC 15 71 ?_; refine wl_callS rfl rfl has71 rfl Zbr ?_; intro bn hq; clear hq) | (refine lC _ 72 ?_; first | (refine Zh1 ?_; intro q hq; clear hq q) | (refine Zh2 ?_; (first | refine bad_end ?_ | refine bad_endM ?_); intro w hs)) | apply Wl.nil | (refine Zu ?_; intro b) | (apply wl_buildSlice rfl rfl (slT rfl) (szT rfl) (zeroT rfl) rfl Zf7 rfl; exact Zq; intro b)) | (apply gQ; first | (apply Wq.ev rfl rfl; exact Zev)) | (apply lW; first | apply W.seq | ((show W _ _ _ _ _ _ (.inl (.region 3 _ true) :: _) _ _); refine W.regionM [] [⟨b3, true, row (tiC t1) 42⟩] [⟨b3, true, row (tiC t1) 42⟩] mixed ?_) | ((show W _ _ _ _ _ _ (.inl (.region 5 _ true) :: _) _ _); refine W.regionM [11] [] [(⟨bn, true, ndO 7 [] [] 0 t1.a (.slice (some ⟨kb, 0, none⟩) 1 1)⟩ : Ent)] mixed ?_) | ((show W _ _ _ _ _ _ (.inl (.region 8 _ true) :: _) _ _); refine W.regionM [11] [] [(⟨bn, true, row [.int .i64 7, st [], st [], .int .i32 0, .slice none 0 0, .int .i64 t1.a, ownV (1 + 1) o2] 85⟩ : Ent)] mixed ?_) | apply W.region | (refine Zbh ?_) | (refine Zx ?_; intro w hs)) | ((show Wm _ _ _ _ _ _ _ _ _ _ _ _ _ _ _ _); first | ((refine Zgg ?_)) | (refine Zgj ?_) | (refine Zgm ?_) | (refine Zid ?_) | (refine Zjf ?_) | (refine Zi6 ?_) | ((fail_if_success (refine Zba ?_)); (refine Zgd ?_ ?_ <;> (intro h; try exact Zh))) | ((fail_if_success (refine Zba ?_)); (refine Zgc ?_ ?_ <;> (intro h; try exact Zh))) | apply Wm.next) | apply AllO.nil | apply AllO.cons | (refine Or.inl Zj) | ((show _ ∨ Wl _ _ _ _ _ _ _ _ _ _); apply Or.inr) | (refine Zg2 ?_))
   all_goals first | (simp only [row_nd, Nat.reduceAdd] at hs hown3; exact GivesS.ofC hst1 hs (.mk bn 7 [] [] 0 t1.a o3 [n1, n2, n3]) ⟨by rw [tnOk]; exact ⟨hown3, by simp only [tnsOk]; exact ⟨hok1, hok2, hok3, trivial⟩⟩, by rw [tnP]; simp only [tnsP, hp1, hp2, hp3]; rfl⟩ rfl Zew)
 ·rw [mayP_no c6] at e
  cases e
  (refine Zec ?_; simp only [argL])
  repeat' (first | (apply gL; first | (apply Wl.ev rfl rfl; exact Zev) | (refine Zey ?_; refine wl_alloc rfl rfl (zeroT rfl) ?_; intro b3) | ((show Wl _ _ _ _ _ _ _ (⟨some 14, .buildSlice _ _ _, _, _, _, _⟩ :: _) _ _); apply wl_buildSlice rfl rfl (slT rfl) (szT rfl) (zeroT rfl) rfl Zf7 rfl; exact Zq; intro kb) | (refine Zgt ?_; try simp only [List.set]) | (refine Zf6 ?_) | (refine lC 13 77 ?_; first | (refine Zk7 ?_; rintro n1 ⟨hok1, hp1⟩) | (refine Zlb ?_; (first | refine bad_end ?_ | refine bad_endM ?_); intro w hs)) | (refine lC 24 102 ?_; first | (refine Zk3 ?_; rintro n2 ⟨hok2, hp2⟩) | (refine Zk8 ?_; (first | refine bad_end ?_ | refine bad_endM ?_); intro w hs)) | (refine lC 42 102 ?_; first | (refine Zk4 ?_; rintro n3 ⟨hok3, hp3⟩) | (refine Zk9 ?_; (first | refine bad_end ?_ | refine bad_endM ?_); intro w hs)) | ((show Wl _ _ _ _ _ _ _ (⟨some 26, .call ⟨.builtin .append, _, _⟩, _, _, _, _⟩ :: _) _ _); refine Wl.reC (H' := ⟨b, true, row [ptr n2.b] 67⟩ :: (⟨bn, true, ndO 7 [] [] 0 t1.a (.slice (some ⟨kb, 0, none⟩) 1 1)⟩ : Ent) :: ⟨r, true, rdP lv (L.length - l'.length)⟩ :: ((A ++ (tnH n1 ++ tnH n2)) ++ ownH 67 (some (kb, 1, [ptr n1.b].toArray)))) Zle ?_; refine wl_append_own (m := 1) (k := 1) (o := some (kb, 1, [ptr n1.b].toArray)) (xs := [ptr n1.b]) (news := [ptr n2.b]) rfl rfl (slT rfl) (szT rfl) (byT rfl) (zeroT rfl) rfl rfl rfl ⟨Nat.le_refl _, (show 1 ≤ maxLen by decide), rfl, rfl, rfl⟩ Zd rfl (fun j v h => by simpa using h) Zbn Zga Zf7 Zga Zt ?_; intro o2 hown2) | (refine lC 32 76 ?_; first | (refine Zk0 ?_; intro q hq; clear hq q) | (refine Zk2 ?_; intro q hq; clear hq q)) | (refine lC 15 71 ?_; refine wl_callS rfl rfl has71 rfl Zbr ?_; intro bn hq; clear hq) | (refine lC _ 72 ?_; first | (refine Zh1 ?_; intro q hq; clear hq q) | (refine Zh2 ?_; (first | refine bad_end ?_ | refine bad_endM ?_); intro w hs)) | apply Wl.nil | (refine Zu ?_; intro b) | (apply wl_buildSlice rfl rfl (slT rfl) (szT rfl) (zeroT rfl) rfl Zf7 rfl; exact Zq; intro b)) | (apply gQ; first | (apply Wq.ev rfl rfl; exact Zev)) | (apply lW; first | apply W.seq | ((show W _ _ _ _ _ _ (.inl (.region 3 _ true) :: _) _ _); refine W.regionM [] [⟨b3, true, row (tiC t1) 42⟩] [⟨b3, true, row (tiC t1) 42⟩] mixed ?_) | ((show W _ _ _ _ _ _ (.inl (.region 5 _ true) :: _) _ _); refine W.regionM [11] [] [(⟨bn, true, ndO 7 [] [] 0 t1.a (.slice (some ⟨kb, 0, none⟩) 1 1)⟩ : Ent)] mixed ?_) | apply W.region | apply W.skip | (refine Zbc ?_) | (refine Zx ?_; intro w hs)) | ((show Wm _ _ _ _ _ _ _ _ _ _ _ _ _ _ _ _); first | ((refine Zgg ?_)) | (refine Zgj ?_) | (refine Zgm ?_) | (refine Zid ?_) | (refine Zjf ?_) | (refine Zi6 ?_) | ((fail_if_success (refine Zba ?_)); (refine Zgd ?_ ?_ <;> (intro h; try exact Zh))) | ((fail_if_success (refine Zba ?_)); (refine Zgc ?_ ?_ <;> (intro h; try exact Zh))) | apply Wm.next) | apply AllO.nil | apply AllO.cons | (refine Or.inl Zj) | ((show _ ∨ Wl _ _ _ _ _ _ _ _ _ _); apply Or.inr) | (refine Zg2 ?_))
  all_goals first | (simp only [row_nd, Nat.reduceAdd] at hs hown2; exact GivesS.ofC hst1 hs (.mk bn 7 [] [] 0 t1.a o2 [n1, n2]) ⟨by rw [tnOk]; exact ⟨hown2, by simp only [tnsOk]; exact ⟨hok1, hok2, trivial⟩⟩, by rw [tnP]; simp only [tnsP, hp1, hp2]; rfl⟩ rfl Zew)
 all_goals ((refine Zec ?_; simp only [argL]); (repeat' (first | (apply gL; first | (apply Wl.ev rfl rfl; exact Zev) | (refine Zey ?_; refine wl_alloc rfl rfl (zeroT rfl) ?_; intro b3) | ((show Wl _ _ _ _ _ _ _ (⟨some 14, .buildSlice _ _ _, _, _, _, _⟩ :: _) _ _); apply wl_buildSlice rfl rfl (slT rfl) (szT rfl) (zeroT rfl) rfl Zf7 rfl; exact Zq; intro kb) | (refine Zf6 ?_) | (refine lC 13 77 ?_; first | (refine Zk7 ?_; rintro n1 ⟨hok1, hp1⟩) | (refine Zlb ?_; (first | refine bad_end ?_ | refine bad_endM ?_); intro w hs)) | (refine lC 24 102 ?_; first | (refine Zk3 ?_; rintro n2 ⟨hok2, hp2⟩) | (refine Zk8 ?_; (first | refine bad_end ?_ | refine bad_endM ?_); intro w hs)) | (refine lC 42 102 ?_; first | (refine Zk4 ?_; rintro n3 ⟨hok3, hp3⟩) | (refine Zk9 ?_; (first | refine bad_end ?_ | refine bad_endM ?_); intro w hs)) | (refine lC 15 71 ?_; refine wl_callS rfl rfl has71 rfl Zbr ?_; intro bn hq; clear hq) | (refine lC _ 72 ?_; first | (refine Zh1 ?_; intro q hq; clear hq q) | (refine Zh2 ?_; (first | refine bad_end ?_ | refine bad_endM ?_); intro w hs)) | apply Wl.nil) | (apply gQ; first | (apply Wq.ev rfl rfl; exact Zev)) | (apply lW; first | apply W.seq | ((show W _ _ _ _ _ _ (.inl (.region 3 _ true) :: _) _ _); refine W.regionM [] [⟨b3, true, row (tiC t1) 42⟩] [⟨b3, true, row (tiC t1) 42⟩] mixed ?_) | ((show W _ _ _ _ _ _ (.inl (.region 5 _ true) :: _) _ _); refine W.regionM [11] [] [(⟨bn, true, ndO 7 [] [] 0 t1.a (.slice (some ⟨kb, 0, none⟩) 1 1)⟩ : Ent)] mixed ?_) | apply W.region) | ((show Wm _ _ _ _ _ _ _ _ _ _ _ _ _ _ _ _); first | ((refine Zgg ?_)) | (refine Zgj ?_) | (refine Zgm ?_) | (refine Zid ?_) | (refine Zjf ?_) | (refine Zi6 ?_) | ((fail_if_success (refine Zba ?_)); (refine Zgd ?_ ?_ <;> (intro h; try exact Zh))) | ((fail_if_success (refine Zba ?_)); (refine Zgc ?_ ?_ <;> (intro h; try exact Zh))) | apply Wm.next) | apply AllO.nil | apply AllO.cons | (refine Or.inl Zj) | ((show _ ∨ Wl _ _ _ _ _ _ _ _ _ _); apply Or.inr) | (refine Zg2 ?_))); all_goals first | exact BadS.ofC hst1 hs Zn | fail)
end Go.Proofs.YtbinaeemcidicaaGreat
