/- Walks: a block. No condition. -/
import Derived.Test.YtbinaeemcidicaaGreatDoorZPT
set_option maxRecDepth 100000
set_option maxHeartbeats 16000000
namespace Go.Proofs.YtbinaeemcidicaaGreatDoor
open Go.PB Go.RowKit
attribute [local irreducible] Go.Calls
theorem len_snoc (l : List Tn) (t : Tn) : (l ++ [t]).length = l.length + 1 := by simp
theorem own_one (n : Nat) (o : Ow) : (ownV n o).oneCell' = true := by cases o <;> rfl
theorem block_step {f : Nat} (ihs : NodeC f .stmt 135 []) : NodeC (f + 1) .blk 97 [] := by
 intro M w0 w H K TR r a lv L l l' o hst hu hT hm hl e
 (obtain ⟨A, p1, p2⟩ := hu.front; have hTA : ∀ e ∈ TR, e ∈ A := fun e he => mem_front p1 (hm e he) (hT.2.1 e he); have hst1 := hst.perm p1; have hlim := hT.2.2.1)
 rw [pF] at e
 rcases tk_cases (isA [[123]]) l with ⟨t, l1, rfl, c⟩ | c
 case inr =>
  rw [tkP_bad c] at e
  cases e
  rw [← hl.len] at p2
  (refine calls_of_W (vs := [ptr r]) Tryz.func97 rfl Tryz.ntmps97 (Nat.le_of_ble_eq_true rfl) hst1.fromHere ?_; simp only [argL])
  repeat' (first | (apply gL; first | (apply Wl.ev rfl rfl; exact Zev) | (refine lC 7 94 ?_; first | (refine Zho ?_; intro q hq; clear hq q) | (refine Zhp ?_; (first | refine bad_end ?_ | refine bad_endM ?_); intro w hs)) | apply Wl.nil) | (apply gQ; first | (apply Wq.ev rfl rfl; exact Zev)) | (apply lW; first | apply W.seq | apply W.region))
  all_goals first | exact BadS.ofC hst1 hs Zo
 rw [tkP_ok c] at e
 have a1 := hl.next
 have key : ∃ q, pF f (.stms []) l1 = some (q, l') ∧ o = q.map fun ps => [.mk 6 [] [] 0 t.a ps] := by
  rcases bnd_cases e with ⟨e1, rfl⟩ | ⟨ps, l2, e1, e⟩
  ·exact ⟨none, e1, rfl⟩
  ·cases e
   exact ⟨some ps, e1, rfl⟩
 obtain ⟨q, eq1, rfl⟩ := key
 clear e
 (refine calls_of_W (vs := [ptr r]) Tryz.func97 rfl Tryz.ntmps97 (Nat.le_of_ble_eq_true rfl) hst1.fromHere ?_; simp only [argL])
 repeat' (first | (apply gL; first | (apply Wl.ev rfl rfl; exact Zev) | (refine lC 7 94 ?_; first | (refine Zho ?_; intro q hq; clear hq q) | (refine Zhp ?_; (first | refine bad_end ?_ | refine bad_endM ?_); intro w hs)) | (refine lC 8 93 ?_; refine wl_callS rfl rfl has93 rfl Zbm ?_; intro bn hq; clear hq) | apply Wl.nil) | (apply gQ; first | (apply Wq.ev rfl rfl; exact Zev)) | (apply lW; first | apply W.seq | (refine W.reC (H' := ⟨bn, true, ndO 6 [] [] 0 t.a (ownV ([] : List Tn).length none)⟩ :: ⟨r, true, rdP lv (L.length - l1.length)⟩ :: ((A ++ tnsH []) ++ ownH 77 none)) (by rw [← a1.len]; intro e; simp only [List.count_append, cnt_cons, List.count_nil, ownH, ownV, tnsH]; omega) ?_; refine W.loop (X := Nat × List Tn × Ow × List Ti) (fun x => [(0, ptr r), (3, ptr bn)]) (fun x => ⟨bn, true, ndO 6 [] [] 0 t.a (ownV x.2.1.length x.2.2.1)⟩ :: ⟨r, true, rdP lv (L.length - x.2.2.2.length)⟩ :: ((A ++ tnsH x.2.1) ++ ownH 77 x.2.2.1)) (fun x => x.1 ≤ f ∧ tnsOk x.2.1 ∧ ownOk x.2.1.length 1 (ptrs x.2.1) x.2.2.1 ∧ x.2.1.length + x.2.2.2.length ≤ L.length ∧ At L (L.length - x.2.2.2.length) x.2.2.2 ∧ pF x.1 (.stms (tnsP x.2.1)) x.2.2.2 = some (q, l')) (fun x => x.1) (f, [], none, l1) ⟨Nat.le_refl _, by rw [tnsOk]; trivial, ⟨rfl, rfl⟩, by have := a1.le; simp only [List.length_nil]; omega, by rw [← a1.len]; exact a1, by rw [tnsP]; exact eq1⟩ Zn (List.Sublist.refl _) ?_) | apply W.region | apply W.block))
 rintro ⟨g, ts, o1, l5⟩ ⟨hg, hok, hown, hlen5, at5, e⟩
 dsimp only at hg hok hown hlen5 at5 e ⊢
 cases g with
 | zero => rw [pF] at e; cases e
 | succ g =>
 rw [pF] at e
 rcases may_cases [[125]] l5 with ⟨s5, l6, rfl, c5⟩ | c5
 ·rw [mayP_yes c5] at e
  have a2 := at5.next
  cases e
  have hlen : L.length - (s5 :: l').length + 1 = L.length - l'.length := a2.len
  rw [← hlen] at p2
  repeat' (first | (apply gL; first | (apply Wl.ev rfl rfl; exact Zev) | (refine Zf8 ?_) | (refine Zf0 ?_; first | (refine Zkz ?_; intro q hq; clear hq q) | (refine Zk3 ?_; intro q hq; clear hq q)) | apply Wl.nil | (refine Zbd ?_; intro b) | (apply wl_buildSlice rfl rfl (slT rfl) (szT rfl) (zeroT rfl) rfl Zf6 rfl; exact Zt; intro b)) | (apply gQ; first | (apply Wq.ev rfl rfl; exact Zev)) | (apply lW; first | apply W.seq | apply W.region | apply W.block | (refine Zbk ?_) | (refine Zba ?_; intro w hs)))
  all_goals first | exact GivesS.ofC hst1 hs (.mk bn 6 [] [] 0 t.a o1 ts) ⟨by rw [tnOk]; exact ⟨hown, hok⟩, by rw [tnP]; rfl⟩ rfl Zd7
 rw [mayP_no c5] at e
 rcases bnd_cases e with ⟨e6, rfl⟩ | ⟨ps, l6, e6, e⟩
 ·have e6 := pF_mono (show g ≤ f by omega) e6
  repeat' (first | (apply gL; first | (apply Wl.ev rfl rfl; exact Zev) | (refine Zf8 ?_) | (refine Zf0 ?_; first | (refine Zkz ?_; intro q hq; clear hq q) | (refine Zk3 ?_; intro q hq; clear hq q)) | (refine lC 23 135 ?_; first | (refine wl_callS rfl rfl has135 rfl (fun w hs => node_ok ihs hs Zf5 Zf5 Zh hT Zc) ?_; rintro t1 ⟨hok1, hp1⟩) | (refine wl_callB0 rfl has135 rfl (fun w hs => node_bad ihs hs Zf5 Zf5 Zh hT Zc) ?_; (first | refine bad_end ?_ | refine bad_endM ?_); intro w hs)) | apply Wl.nil | (refine Zbd ?_; intro b) | (apply wl_buildSlice rfl rfl (slT rfl) (szT rfl) (zeroT rfl) rfl Zf6 rfl; exact Zt; intro b)) | (apply gQ; first | (apply Wq.ev rfl rfl; exact Zev)) | (apply lW; first | apply W.seq | ((show W _ _ _ _ _ _ (.inl (.region 5 _ true) :: _) _ _); refine W.regionM [11] [] [(⟨bn, true, ndO 6 [] [] 0 t.a (ownV ts.length o1)⟩ : Ent)] mixed ?_) | apply W.region | apply W.block | apply W.skip | (refine Zbg ?_)) | ((show Wm _ _ _ _ _ _ _ _ _ _ _ _ _ _ _ _); first | ((refine Zgg ?_)) | (refine Zgq ?_) | (refine Zgs ?_) | (refine Zhs ?_) | (refine Ziy ?_) | (refine Zim ?_) | ((fail_if_success (refine Zbn ?_)); (refine Zgc ?_ ?_ <;> (intro h; try exact Zg))) | ((fail_if_success (refine Zbn ?_)); (refine Zga ?_ ?_ <;> (intro h; try exact Zg))) | apply Wm.next) | apply AllO.nil | apply AllO.cons | (refine Or.inl Zk) | ((show _ ∨ Wl _ _ _ _ _ _ _ _ _ _); apply Or.inr) | (refine Zgt ?_))
  all_goals first | exact BadS.ofC hst1 hs Zo
 ·have hle := (pF_good g .stmt l5 _ _ e6).2 rfl
  have hle' : l6.length + 1 ≤ l5.length := hle
  have e6 := pF_mono (show g ≤ f by omega) e6
  have a6 := at5.step e6
  repeat' (first | (apply gL; first | (apply Wl.ev rfl rfl; exact Zev) | (refine Zgj ?_; try simp only [List.set]) | (refine Zf8 ?_) | (refine Zf0 ?_; first | (refine Zkz ?_; intro q hq; clear hq q) | (refine Zk3 ?_; intro q hq; clear hq q)) | (refine lC 23 135 ?_; first | (refine wl_callS rfl rfl has135 rfl (fun w hs => node_ok ihs hs Zf5 Zf5 Zh hT Zc) ?_; rintro t1 ⟨hok1, hp1⟩) | (refine wl_callB0 rfl has135 rfl (fun w hs => node_bad ihs hs Zf5 Zf5 Zh hT Zc) ?_; (first | refine bad_end ?_ | refine bad_endM ?_); intro w hs)) | ((show Wl _ _ _ _ _ _ _ (⟨some 25, .call ⟨.builtin .append, _, _⟩, _, _, _, _⟩ :: _) _ _); refine Wl.reC (H' := ⟨b, true, row [ptr t1.b] 77⟩ :: (⟨bn, true, ndO 6 [] [] 0 t.a (ownV ts.length o1)⟩ : Ent) :: ⟨r, true, rdP lv (L.length - l6.length)⟩ :: ((A ++ tnsH (ts ++ [t1])) ++ ownH 77 o1)) Zch ?_; refine wl_append_own (m := ts.length) (k := 1) (o := o1) (xs := ptrs ts) (news := [ptr t1.b]) rfl rfl (slT rfl) (szT rfl) (byT rfl) (zeroT rfl) rfl rfl rfl hown Zd rfl (fun j v h => by simpa using h) Zc0 Zf7 Zcu Zf7 Zbw ?_; intro o2 hown2) | apply Wl.nil | (refine Zbd ?_; intro b) | (apply wl_buildSlice rfl rfl (slT rfl) (szT rfl) (zeroT rfl) rfl Zf6 rfl; exact Zt; intro b)) | (apply gQ; first | (apply Wq.ev rfl rfl; exact Zev)) | (apply lW; first | apply W.seq | ((show W _ _ _ _ _ _ (.inl (.region 5 _ true) :: _) _ _); refine W.regionM [11] [] [(⟨bn, true, ndO 6 [] [] 0 t.a (ownV ts.length o1)⟩ : Ent)] mixed ?_) | apply W.region | apply W.block | apply W.blk | apply W.skip | (refine Zbg ?_)) | ((show Wm _ _ _ _ _ _ _ _ _ _ _ _ _ _ _ _); first | ((refine Zgg ?_)) | (refine Zgq ?_) | (refine Zgs ?_) | (refine Zhs ?_) | (refine Ziy ?_) | (refine Zim ?_) | ((fail_if_success (refine Zbn ?_)); (refine Zgc ?_ ?_ <;> (intro h; try exact Zg))) | ((fail_if_success (refine Zbn ?_)); (refine Zga ?_ ?_ <;> (intro h; try exact Zg))) | apply Wm.next) | apply AllO.nil | apply AllO.cons | (refine Or.inl Zk) | ((show _ ∨ Wl _ _ _ _ _ _ _ _ _ _); apply Or.inr) | (refine Zgt ?_))
  all_goals (refine W.reC (H' := ⟨bn, true, row [.int .i64 6, st [], st [], .int .i32 0, .slice none 0 0, .int .i64 t.a, ownV (ts ++ [t1]).length o2] 104⟩ :: ⟨r, true, rdP lv (L.length - l6.length)⟩ :: ((A ++ tnsH (ts ++ [t1])) ++ ownH 77 o2)) (by rw [len_snoc ts t1]; intro e; simp only [List.count_append, cnt_cons]; omega) ?_; exact W.again (g, ts ++ [t1], o2, l6) ⟨by omega, tnsOk_app hok (tnsOk1 hok1), by simpa using hown2, by dsimp only; rw [len_snoc ts t1]; omega, a6, by rw [tnsP_app, tnsP1, hp1]; exact e⟩ Ze6 Zn (List.Sublist.refl _))
end Go.Proofs.YtbinaeemcidicaaGreatDoor
namespace Go.Proofs.YtbinaeemcidicaaGreatDoor
open Go.PB Go.RowKit
attribute [local irreducible] Go.Calls
def chP (f : Nat) (l : List Ti) : Rp := tkP (isA [[105, 102]]) l fun t l => tkP (isA [[40]]) l fun _ l => bndP (pF f .expr l) fun ps l => tkP (isA [[41]]) l fun _ l => bndP (pF f .stmt l) fun qs l =>
 mayP [[101, 108, 115, 101]] l (fun _ l => bndP (pF f .stmt l) fun rs l => okP [.mk 7 [] [] 0 t.a [hdP ps, hdP qs, hdP rs]] l) (okP [.mk 7 [] [] 0 t.a [hdP ps, hdP qs]] l)
theorem own_row {e : TypeId} {kb n : Nat} {l : List Value} : ownH e (some (kb, n, l.toArray)) = [⟨kb, true, row l e⟩] := rfl
theorem choice_step {f : Nat} (ihe : NodeC f .expr 99 []) (ihs : NodeC f .stmt 135 []) : GenC (chP f) 162 [] := by
 intro M w0 w H K TR r a lv L l0 l' o hst hu hT hm a0 e
 (obtain ⟨A, p1, p2⟩ := hu.front; have hTA : ∀ e ∈ TR, e ∈ A := fun e he => mem_front p1 (hm e he) (hT.2.1 e he); have hst1 := hst.perm p1; have hlim := hT.2.2.1)
 unfold chP at e
 rcases tk_cases (isA [[105, 102]]) l0 with ⟨t1, l1, rfl, c1⟩ | c1
 rotate_left
 rw [tkP_bad c1] at e
 cases e
 rw [← a0.len] at p2
 rotate_right
 rw [tkP_ok c1] at e
 have a1 := a0.next
 rcases tk_cases (isA [[40]]) l1 with ⟨t2, l2, rfl, c2⟩ | c2
 rotate_left
 rw [tkP_bad c2] at e
 cases e
 rw [← a1.len] at p2
 rotate_right
 rw [tkP_ok c2] at e
 have a2 := a1.next
 rcases bnd_cases e with ⟨e3, rfl⟩ | ⟨p3, l3, e3, e⟩
 rotate_left
 have a3 := a2.step e3
 rcases tk_cases (isA [[41]]) l3 with ⟨t4, l4, rfl, c4⟩ | c4
 rotate_left
 rw [tkP_bad c4] at e
 cases e
 rw [← a3.len] at p2
 rotate_right
 rw [tkP_ok c4] at e
 have a4 := a3.next
 rcases bnd_cases e with ⟨e5, rfl⟩ | ⟨p5, l5, e5, e⟩
 rotate_left
 have a5 := a4.step e5
 rcases may_cases [[101, 108, 115, 101]] l5 with ⟨t6, l6, hl6, c6⟩ | c6
 ·have a6 := hl6 ▸ a5
  rw [hl6, mayP_yes c6] at e
  have a7 := a6.next
  rcases bnd_cases e with ⟨e8, rfl⟩ | ⟨p8, l8, e8, e⟩
  ·subst hl6
   (refine Zdp ?_; simp only [argL])
   repeat' (first | (apply gL; first | (apply Wl.ev rfl rfl; exact Zev) | (refine lA 3 ?_; refine wl_alloc rfl rfl (zeroT rfl) ?_; intro b3) | ((show Wl _ _ _ _ _ _ _ (⟨some 14, .buildSlice _ _ _, _, _, _, _⟩ :: _) _ _); apply wl_buildSlice rfl rfl (slT rfl) (szT rfl) (zeroT rfl) rfl Zf6 rfl; exact Zt; intro kb) | (refine Zgj ?_; try simp only [List.set]) | (refine Zf8 ?_) | (refine lC 13 99 ?_; first | (refine Zkm ?_; rintro n1 ⟨hok1, hp1⟩) | (refine Zkq ?_; (first | refine bad_end ?_ | refine bad_endM ?_); intro w hs)) | (refine lC 24 135 ?_; first | (refine Zki ?_; rintro n2 ⟨hok2, hp2⟩) | (refine Zkn ?_; (first | refine bad_end ?_ | refine bad_endM ?_); intro w hs)) | (refine lC 42 135 ?_; first | (refine Zkj ?_; rintro n3 ⟨hok3, hp3⟩) | (refine Zko ?_; (first | refine bad_end ?_ | refine bad_endM ?_); intro w hs)) | ((show Wl _ _ _ _ _ _ _ (⟨some 26, .call ⟨.builtin .append, _, _⟩, _, _, _, _⟩ :: _) _ _); refine Wl.reC (H' := ⟨b, true, row [ptr n2.b] 77⟩ :: (⟨bn, true, ndO 7 [] [] 0 t1.a (.slice (some ⟨kb, 0, none⟩) 1 1)⟩ : Ent) :: ⟨r, true, rdP lv (L.length - (t6 :: l6).length)⟩ :: ((A ++ (tnH n1 ++ tnH n2)) ++ ownH 77 (some (kb, 1, [ptr n1.b].toArray)))) Zkv ?_; refine wl_append_own (m := 1) (k := 1) (o := some (kb, 1, [ptr n1.b].toArray)) (xs := [ptr n1.b]) (news := [ptr n2.b]) rfl rfl (slT rfl) (szT rfl) (byT rfl) (zeroT rfl) rfl rfl rfl ⟨Nat.le_refl _, (show 1 ≤ maxLen by decide), rfl, rfl, rfl⟩ Zd rfl (fun j v h => by simpa using h) Zc0 Zf7 Zf6 Zf7 Zbw ?_; intro o2 hown2) | (refine lC 32 98 ?_; first | (refine Zkf ?_; intro q hq; clear hq q) | (refine Zkh ?_; intro q hq; clear hq q)) | (refine lC 15 93 ?_; refine wl_callS rfl rfl has93 rfl Zbm ?_; intro bn hq; clear hq) | (refine lC _ 94 ?_; first | (refine Zho ?_; intro q hq; clear hq q) | (refine Zhp ?_; (first | refine bad_end ?_ | refine bad_endM ?_); intro w hs)) | apply Wl.nil | (refine Zbd ?_; intro b) | (apply wl_buildSlice rfl rfl (slT rfl) (szT rfl) (zeroT rfl) rfl Zf6 rfl; exact Zt; intro b)) | (apply gQ; first | (apply Wq.ev rfl rfl; exact Zev)) | (apply lW; first | apply W.seq | ((show W _ _ _ _ _ _ (.inl (.region 3 _ true) :: _) _ _); refine W.regionM [] [⟨b3, true, row (tiC t1) 67⟩] [⟨b3, true, row (tiC t1) 67⟩] mixed ?_) | ((show W _ _ _ _ _ _ (.inl (.region 5 _ true) :: _) _ _); refine W.regionM [11] [] [(⟨bn, true, ndO 7 [] [] 0 t1.a (.slice (some ⟨kb, 0, none⟩) 1 1)⟩ : Ent)] mixed ?_) | ((show W _ _ _ _ _ _ (.inl (.region 8 _ true) :: _) _ _); refine W.regionM [11] [] [(⟨bn, true, row [.int .i64 7, st [], st [], .int .i32 0, .slice none 0 0, .int .i64 t1.a, ownV (1 + 1) o2] 104⟩ : Ent)] mixed ?_) | apply W.region | (refine Zbk ?_)) | ((show Wm _ _ _ _ _ _ _ _ _ _ _ _ _ _ _ _); first | ((refine Zgg ?_)) | (refine Zgq ?_) | (refine Zgs ?_) | (refine Zhs ?_) | (refine Ziy ?_) | (refine Zim ?_) | ((fail_if_success (refine Zbn ?_)); (refine Zgc ?_ ?_ <;> (intro h; try exact Zg))) | ((fail_if_success (refine Zbn ?_)); (refine Zga ?_ ?_ <;> (intro h; try exact Zg))) | apply Wm.next) | apply AllO.nil | apply AllO.cons | (refine Or.inl Zk) | ((show _ ∨ Wl _ _ _ _ _ _ _ _ _ _); apply Or.inr) | (refine Zgt ?_))
   all_goals first | exact BadS.ofC hst1 hs Zo
  ·subst hl6
   cases e
   (refine Zdp ?_; simp only [argL])
   repeat' (first | (apply gL; first | (apply Wl.ev rfl rfl; exact Zev) | (refine lA 3 ?_; refine wl_alloc rfl rfl (zeroT rfl) ?_; intro b3) | ((show Wl _ _ _ _ _ _ _ (⟨some 14, .buildSlice _ _ _, _, _, _, _⟩ :: _) _ _); apply wl_buildSlice rfl rfl (slT rfl) (szT rfl) (zeroT rfl) rfl Zf6 rfl; exact Zt; intro kb) | (refine Zgj ?_; try simp only [List.set]) | (refine Zf8 ?_) | (refine lC 13 99 ?_; first | (refine Zkm ?_; rintro n1 ⟨hok1, hp1⟩) | (refine Zkq ?_; (first | refine bad_end ?_ | refine bad_endM ?_); intro w hs)) | (refine lC 24 135 ?_; first | (refine Zki ?_; rintro n2 ⟨hok2, hp2⟩) | (refine Zkn ?_; (first | refine bad_end ?_ | refine bad_endM ?_); intro w hs)) | (refine lC 42 135 ?_; first | (refine Zkj ?_; rintro n3 ⟨hok3, hp3⟩) | (refine Zko ?_; (first | refine bad_end ?_ | refine bad_endM ?_); intro w hs)) | ((show Wl _ _ _ _ _ _ _ (⟨some 26, .call ⟨.builtin .append, _, _⟩, _, _, _, _⟩ :: _) _ _); refine Wl.reC (H' := ⟨b, true, row [ptr n2.b] 77⟩ :: (⟨bn, true, ndO 7 [] [] 0 t1.a (.slice (some ⟨kb, 0, none⟩) 1 1)⟩ : Ent) :: ⟨r, true, rdP lv (L.length - (t6 :: l6).length)⟩ :: ((A ++ (tnH n1 ++ tnH n2)) ++ ownH 77 (some (kb, 1, [ptr n1.b].toArray)))) Zkv ?_; refine wl_append_own (m := 1) (k := 1) (o := some (kb, 1, [ptr n1.b].toArray)) (xs := [ptr n1.b]) (news := [ptr n2.b]) rfl rfl (slT rfl) (szT rfl) (byT rfl) (zeroT rfl) rfl rfl rfl ⟨Nat.le_refl _, (show 1 ≤ maxLen by decide), rfl, rfl, rfl⟩ Zd rfl (fun j v h => by simpa using h) Zc0 Zf7 Zf6 Zf7 Zbw ?_; intro o2 hown2) | ((show Wl _ _ _ _ _ _ _ (⟨some 44, .call ⟨.builtin .append, _, _⟩, _, _, _, _⟩ :: _) _ _); refine Wl.reC (H' := ⟨b, true, row [ptr n3.b] 77⟩ :: (⟨bn, true, row [.int .i64 7, st [], st [], .int .i32 0, .slice none 0 0, .int .i64 t1.a, ownV (1 + 1) o2] 104⟩ : Ent) :: ⟨r, true, rdP lv (L.length - l'.length)⟩ :: ((A ++ (tnH n1 ++ (tnH n2 ++ tnH n3))) ++ ownH 77 o2)) Zr ?_; refine wl_append_own (m := 1 + 1) (k := 1) (o := o2) (xs := [ptr n1.b] ++ [ptr n2.b]) (news := [ptr n3.b]) rfl rfl (slT rfl) (szT rfl) (byT rfl) (zeroT rfl) rfl rfl rfl hown2 Zd rfl (fun j v h => by simpa using h) Zc0 Zf7 Zf6 Zf7 Zbw ?_; intro o3 hown3) | (refine lC 32 98 ?_; first | (refine Zkf ?_; intro q hq; clear hq q) | (refine Zkh ?_; intro q hq; clear hq q)) | (refine lC 15 93 ?_; refine wl_callS rfl rfl has93 rfl Zbm ?_; intro bn hq; clear hq) | (refine lC _ 94 ?_; first | (refine Zho ?_; intro q hq; clear hq q) | (refine Zhp ?_; (first | refine bad_end ?_ | refine bad_endM ?_); intro w hs)) | apply Wl.nil | (refine Zbd ?_; intro b) | (apply wl_buildSlice rfl rfl (slT rfl) (szT rfl) (zeroT rfl) rfl Zf6 rfl; exact Zt; intro b)) | (apply gQ; first | (apply Wq.ev rfl rfl; exact Zev)) | (apply lW; first | apply W.seq | ((show W _ _ _ _ _ _ (.inl (.region 3 _ true) :: _) _ _); refine W.regionM [] [⟨b3, true, row (tiC t1) 67⟩] [⟨b3, true, row (tiC t1) 67⟩] mixed ?_) | ((show W _ _ _ _ _ _ (.inl (.region 5 _ true) :: _) _ _); refine W.regionM [11] [] [(⟨bn, true, ndO 7 [] [] 0 t1.a (.slice (some ⟨kb, 0, none⟩) 1 1)⟩ : Ent)] mixed ?_) | ((show W _ _ _ _ _ _ (.inl (.region 8 _ true) :: _) _ _); refine W.regionM [11] [] [(⟨bn, true, row [.int .i64 7, st [], st [], .int .i32 0, .slice none 0 0, .int .i64 t1.a, ownV (1 + 1) o2] 104⟩ : Ent)] mixed ?_) | apply W.region | (refine Zbk ?_) | (refine Zba ?_; intro w hs)) | ((show Wm _ _ _ _ _ _ _ _ _ _ _ _ _ _ _ _); first | ((refine Zgg ?_)) | (refine Zgq ?_) | (refine Zgs ?_) | (refine Zhs ?_) | (refine Ziy ?_) | (refine Zim ?_) | ((fail_if_success (refine Zbn ?_)); (refine Zgc ?_ ?_ <;> (intro h; try exact Zg))) | ((fail_if_success (refine Zbn ?_)); (refine Zga ?_ ?_ <;> (intro h; try exact Zg))) | apply Wm.next) | apply AllO.nil | apply AllO.cons | (refine Or.inl Zk) | ((show _ ∨ Wl _ _ _ _ _ _ _ _ _ _); apply Or.inr) | (refine Zgt ?_))
   all_goals first | (simp only [row_nd, Nat.reduceAdd] at hs hown3; exact GivesS.ofC hst1 hs (.mk bn 7 [] [] 0 t1.a o3 [n1, n2, n3]) ⟨by rw [tnOk]; exact ⟨hown3, by simp only [tnsOk]; exact ⟨hok1, hok2, hok3, trivial⟩⟩, by rw [tnP]; simp only [tnsP, hp1, hp2, hp3]; rfl⟩ rfl Zd9)
 ·rw [mayP_no c6] at e
  cases e
  (refine Zdp ?_; simp only [argL])
  repeat' (first | (apply gL; first | (apply Wl.ev rfl rfl; exact Zev) | (refine lA 3 ?_; refine wl_alloc rfl rfl (zeroT rfl) ?_; intro b3) | ((show Wl _ _ _ _ _ _ _ (⟨some 14, .buildSlice _ _ _, _, _, _, _⟩ :: _) _ _); apply wl_buildSlice rfl rfl (slT rfl) (szT rfl) (zeroT rfl) rfl Zf6 rfl; exact Zt; intro kb) | (refine Zgj ?_; try simp only [List.set]) | (refine Zf8 ?_) | (refine lC 13 99 ?_; first | (refine Zkm ?_; rintro n1 ⟨hok1, hp1⟩) | (refine Zkq ?_; (first | refine bad_end ?_ | refine bad_endM ?_); intro w hs)) | (refine lC 24 135 ?_; first | (refine Zki ?_; rintro n2 ⟨hok2, hp2⟩) | (refine Zkn ?_; (first | refine bad_end ?_ | refine bad_endM ?_); intro w hs)) | (refine lC 42 135 ?_; first | (refine Zkj ?_; rintro n3 ⟨hok3, hp3⟩) | (refine Zko ?_; (first | refine bad_end ?_ | refine bad_endM ?_); intro w hs)) | ((show Wl _ _ _ _ _ _ _ (⟨some 26, .call ⟨.builtin .append, _, _⟩, _, _, _, _⟩ :: _) _ _); refine Wl.reC (H' := ⟨b, true, row [ptr n2.b] 77⟩ :: (⟨bn, true, ndO 7 [] [] 0 t1.a (.slice (some ⟨kb, 0, none⟩) 1 1)⟩ : Ent) :: ⟨r, true, rdP lv (L.length - l'.length)⟩ :: ((A ++ (tnH n1 ++ tnH n2)) ++ ownH 77 (some (kb, 1, [ptr n1.b].toArray)))) Zkv ?_; refine wl_append_own (m := 1) (k := 1) (o := some (kb, 1, [ptr n1.b].toArray)) (xs := [ptr n1.b]) (news := [ptr n2.b]) rfl rfl (slT rfl) (szT rfl) (byT rfl) (zeroT rfl) rfl rfl rfl ⟨Nat.le_refl _, (show 1 ≤ maxLen by decide), rfl, rfl, rfl⟩ Zd rfl (fun j v h => by simpa using h) Zc0 Zf7 Zf6 Zf7 Zbw ?_; intro o2 hown2) | (refine lC 32 98 ?_; first | (refine Zkf ?_; intro q hq; clear hq q) | (refine Zkh ?_; intro q hq; clear hq q)) | (refine lC 15 93 ?_; refine wl_callS rfl rfl has93 rfl Zbm ?_; intro bn hq; clear hq) | (refine lC _ 94 ?_; first | (refine Zho ?_; intro q hq; clear hq q) | (refine Zhp ?_; (first | refine bad_end ?_ | refine bad_endM ?_); intro w hs)) | apply Wl.nil | (refine Zbd ?_; intro b) | (apply wl_buildSlice rfl rfl (slT rfl) (szT rfl) (zeroT rfl) rfl Zf6 rfl; exact Zt; intro b)) | (apply gQ; first | (apply Wq.ev rfl rfl; exact Zev)) | (apply lW; first | apply W.seq | ((show W _ _ _ _ _ _ (.inl (.region 3 _ true) :: _) _ _); refine W.regionM [] [⟨b3, true, row (tiC t1) 67⟩] [⟨b3, true, row (tiC t1) 67⟩] mixed ?_) | ((show W _ _ _ _ _ _ (.inl (.region 5 _ true) :: _) _ _); refine W.regionM [11] [] [(⟨bn, true, ndO 7 [] [] 0 t1.a (.slice (some ⟨kb, 0, none⟩) 1 1)⟩ : Ent)] mixed ?_) | apply W.region | apply W.skip | (refine Zbg ?_) | (refine Zba ?_; intro w hs)) | ((show Wm _ _ _ _ _ _ _ _ _ _ _ _ _ _ _ _); first | ((refine Zgg ?_)) | (refine Zgq ?_) | (refine Zgs ?_) | (refine Zhs ?_) | (refine Ziy ?_) | (refine Zim ?_) | ((fail_if_success (refine Zbn ?_)); (refine Zgc ?_ ?_ <;> (intro h; try exact Zg))) | ((fail_if_success (refine Zbn ?_)); (refine Zga ?_ ?_ <;> (intro h; try exact Zg))) | apply Wm.next) | apply AllO.nil | apply AllO.cons | (refine Or.inl Zk) | ((show _ ∨ Wl _ _ _ _ _ _ _ _ _ _); apply Or.inr) | (refine Zgt ?_))
  all_goals first | (simp only [row_nd, Nat.reduceAdd] at hs hown2; exact GivesS.ofC hst1 hs (.mk bn 7 [] [] 0 t1.a o2 [n1, n2]) ⟨by rw [tnOk]; exact ⟨hown2, by simp only [tnsOk]; exact ⟨hok1, hok2, trivial⟩⟩, by rw [tnP]; simp only [tnsP, hp1, hp2]; rfl⟩ rfl Zd9)
 all_goals ((refine Zdp ?_; simp only [argL]); (repeat' (first | (apply gL; first | (apply Wl.ev rfl rfl; exact Zev) | (refine lA 3 ?_; refine wl_alloc rfl rfl (zeroT rfl) ?_; intro b3) | ((show Wl _ _ _ _ _ _ _ (⟨some 14, .buildSlice _ _ _, _, _, _, _⟩ :: _) _ _); apply wl_buildSlice rfl rfl (slT rfl) (szT rfl) (zeroT rfl) rfl Zf6 rfl; exact Zt; intro kb) | (refine Zf8 ?_) | (refine lC 13 99 ?_; first | (refine Zkm ?_; rintro n1 ⟨hok1, hp1⟩) | (refine Zkq ?_; (first | refine bad_end ?_ | refine bad_endM ?_); intro w hs)) | (refine lC 24 135 ?_; first | (refine Zki ?_; rintro n2 ⟨hok2, hp2⟩) | (refine Zkn ?_; (first | refine bad_end ?_ | refine bad_endM ?_); intro w hs)) | (refine lC 42 135 ?_; first | (refine Zkj ?_; rintro n3 ⟨hok3, hp3⟩) | (refine Zko ?_; (first | refine bad_end ?_ | refine bad_endM ?_); intro w hs)) | (refine lC 15 93 ?_; refine wl_callS rfl rfl has93 rfl Zbm ?_; intro bn hq; clear hq) | (refine lC _ 94 ?_; first | (refine Zho ?_; intro q hq; clear hq q) | (refine Zhp ?_; (first | refine bad_end ?_ | refine bad_endM ?_); intro w hs)) | apply Wl.nil) | (apply gQ; first | (apply Wq.ev rfl rfl; exact Zev)) | (apply lW; first | apply W.seq | ((show W _ _ _ _ _ _ (.inl (.region 3 _ true) :: _) _ _); refine W.regionM [] [⟨b3, true, row (tiC t1) 67⟩] [⟨b3, true, row (tiC t1) 67⟩] mixed ?_) | ((show W _ _ _ _ _ _ (.inl (.region 5 _ true) :: _) _ _); refine W.regionM [11] [] [(⟨bn, true, ndO 7 [] [] 0 t1.a (.slice (some ⟨kb, 0, none⟩) 1 1)⟩ : Ent)] mixed ?_) | apply W.region) | ((show Wm _ _ _ _ _ _ _ _ _ _ _ _ _ _ _ _); first | ((refine Zgg ?_)) | (refine Zgq ?_) | (refine Zgs ?_) | (refine Zhs ?_) | (refine Ziy ?_) | (refine Zim ?_) | ((fail_if_success (refine Zbn ?_)); (refine Zgc ?_ ?_ <;> (intro h; try exact Zg))) | ((fail_if_success (refine Zbn ?_)); (refine Zga ?_ ?_ <;> (intro h; try exact Zg))) | apply Wm.next) | apply AllO.nil | apply AllO.cons | (refine Or.inl Zk) | ((show _ ∨ Wl _ _ _ _ _ _ _ _ _ _); apply Or.inr) | (refine Zgt ?_))); all_goals first | exact BadS.ofC hst1 hs Zo | fail)
end Go.Proofs.YtbinaeemcidicaaGreatDoor
