/- Walks: a row of a level's operators. No condition. -/
import Derived.Test.YtbinaeemcidicaaGreatDoorZPT
set_option maxRecDepth 100000
set_option maxHeartbeats 16000000
namespace Go.PB
open Go.RowKit
def AppT (H : List Ent) (K : List Ent → List Ent) : Prop := ∀ T, K T = H ++ T
theorem AppT.base {H : List Ent} : AppT H (fun T => H ++ T) := fun _ => rfl
theorem AppT.there {p : Ent} {H : List Ent} {K : List Ent → List Ent} (h : AppT H K) : AppT (p :: H) (fun T => p :: K T) := fun T => by show p :: K T = _; rw [h]; rfl
end Go.PB
namespace Go.Proofs.YtbinaeemcidicaaGreatDoor
open Go.PB Go.RowKit
attribute [local irreducible] Go.Calls
abbrev lvS (q : Nat → Nat) (i : Nat) : Value := .slice (some ⟨q i, 0, none⟩) (levW i).length (levW i).length
def lvL (q : Nat → Nat) : List Value := (List.range 6).map (lvS q)
def lvH (x : Nat × (Nat → Nat)) : List Ent := ⟨x.1, true, row (lvL x.2) 60⟩ :: (List.range 6).map fun i => ⟨x.2 i, true, row (strV (levW i)) 9⟩
theorem lv_get {q : Nat → Nat} {k : Nat} (hk : k < 6) : ∀ o, o = 0 + k → (lvL q).toArray[o]? = some (lvS q k) := fun o ho => by
 rw [ho, Nat.zero_add]
 unfold lvL
 simp [List.getElem?_range hk]
theorem lv_mem {x : Nat × (Nat → Nat)} {k : Nat} (hk : k < 6) : (⟨x.2 k, true, row (strV (levW k)) 9⟩ : Ent) ∈ lvH x := List.Mem.tail _ (List.mem_map.2 ⟨k, List.mem_range.2 hk, rfl⟩)
theorem lv_len (k : Nat) : (levW k).length ≤ 1000000 := by
 unfold levW
 split <;> decide
theorem levels_ok {M : List Nat} {w0 wa : World} {H : List Ent} {K : List Ent → List Ent} (hst : St M w0 wa H) (hA : AppT H K) : Calls Tryz.prog 110 #[] wa (GivesS (fun x : Nat × (Nat → Nat) => .slice (some ⟨x.1, 0, none⟩) 6 6) (fun _ => True) M w0 fun x => K (lvH x)) := by
 refine calls_of_W (vs := []) Tryz.func110 rfl Tryz.ntmps110 (Nat.le_of_ble_eq_true rfl) hst.fromHere ?_
 simp only [argL]
 repeat' (first | (apply gL; first | (apply Wl.ev rfl rfl; exact Zev) | apply Wl.nil | (apply wl_buildSlice rfl rfl (slT rfl) (szT rfl) (zeroT rfl) rfl Zf6 rfl; exact Zt; intro b)) | (apply gQ; first | (apply Wq.ev rfl rfl; exact Zev)) | (apply lW; first | apply W.seq | apply W.region | (refine Zba ?_; intro w hs)))
 rename_i b0 b1 b2 b3 b4 b5
 have hs : St (wrs H) wa w (⟨b, true, row [.slice (some ⟨b0, 0, none⟩) 1 1, .slice (some ⟨b1, 0, none⟩) 1 1, .slice (some ⟨b2, 0, none⟩) 2 2, .slice (some ⟨b3, 0, none⟩) 4 4, .slice (some ⟨b4, 0, none⟩) 2 2, .slice (some ⟨b5, 0, none⟩) 2 2] 60⟩ ::
  ⟨b5, true, row [st [42], st [47]] 9⟩ :: ⟨b4, true, row [st [43], st [45]] 9⟩ :: ⟨b3, true, row [st [60], st [62], st [60, 61], st [62, 61]] 9⟩ :: ⟨b2, true, row [st [61, 61], st [33, 61]] 9⟩ :: ⟨b1, true, row [st [38, 38]] 9⟩ :: ⟨b0, true, row [st [124, 124]] 9⟩ :: H) := hs
 refine GivesS.ofC hst hs (b, fun i => [b0, b1, b2, b3, b4, b5].getD i 0) trivial rfl ?_
 intro e
 rw [hA]
 show List.count e (H ++ [⟨b, true, row [.slice (some ⟨b0, 0, none⟩) 1 1, .slice (some ⟨b1, 0, none⟩) 1 1, .slice (some ⟨b2, 0, none⟩) 2 2, .slice (some ⟨b3, 0, none⟩) 4 4, .slice (some ⟨b4, 0, none⟩) 2 2, .slice (some ⟨b5, 0, none⟩) 2 2] 60⟩,
  ⟨b0, true, row [st [124, 124]] 9⟩, ⟨b1, true, row [st [38, 38]] 9⟩, ⟨b2, true, row [st [61, 61], st [33, 61]] 9⟩, ⟨b3, true, row [st [60], st [62], st [60, 61], st [62, 61]] 9⟩, ⟨b4, true, row [st [43], st [45]] 9⟩, ⟨b5, true, row [st [42], st [47]] 9⟩]) ≤ _
 simp only [List.count_append, cnt_cons, List.count_nil]
 omega
abbrev nxR (b2 b3 r k : Nat) : List Ent := [⟨b2, true, row [ptr r] 73⟩, ⟨b3, true, row [.int .i64 (k : Nat)] 3⟩]
theorem nxR_mem {b2 b3 r k : Nat} {H : List Ent} (h2 : (⟨b2, true, row [ptr r] 73⟩ : Ent) ∈ H) (h3 : (⟨b3, true, row [.int .i64 (k : Nat)] 3⟩ : Ent) ∈ H) : ∀ e ∈ nxR b2 b3 r k, e ∈ H := fun e he => by
 rcases List.mem_cons.1 he with rfl | he
 ·exact h2
 ·rw [List.mem_singleton.1 he]; exact h3
theorem next_one {f k : Nat} (hk : k < 5) (ihb : NodeC f (.bin (k + 1)) 164 [.int .i64 ((k : Int) + 1)]) (b2 b3 r : Nat) : OneC (pF f (binN k)) (fnV 183 [] [ptr b2, ptr b3]) r (nxR b2 b3 r k) := by
 have hb : binN k = .bin (k + 1) := if_pos hk
 rw [hb]
 refine ⟨_, _, _, rfl, has183, fun l o l' e => (pF_good f _ l o l' e).1, ?_⟩
 intro M w0 w H K TR a lv L l l' o hst hR e hl hu hT hm
 (obtain ⟨A, p1, p2⟩ := hu.front; have hTA : ∀ e ∈ TR, e ∈ A := fun e he => mem_front p1 (hm e he) (hT.2.1 e he); have hst1 := hst.perm p1; have hlim := hT.2.2.1)
 have hb2 : (⟨b2, true, row [ptr r] 73⟩ : Ent) ∈ A := mem_frontE p1 (hR _ (List.Mem.head _)) (fun e => by cases e)
 have hb3 : (⟨b3, true, row [.int .i64 (k : Nat)] 3⟩ : Ent) ∈ A := mem_frontE p1 (hR _ (List.Mem.tail _ (List.Mem.head _))) (fun e => by cases e)
 refine calls_of_W (vs := [ptr b2, ptr b3]) Tryz.func183 rfl Tryz.ntmps183 (Nat.le_of_ble_eq_true rfl) hst1.fromHere ?_
 simp only [argL]
 cases o with
 | none =>
  repeat' (first | (apply gL; first | (apply Wl.ev rfl rfl; exact Zco) | (refine lC 6 164 ?_; first | (refine Zik ?_; rintro t1 ⟨hok1, hp1⟩) | (refine Zin ?_; (first | refine bad_end ?_ | refine bad_endM ?_); intro w hs)) | apply Wl.nil) | (apply gQ; first | (apply Wq.ev rfl rfl; exact Zco)) | (apply lW; first | apply W.seq | apply W.region))
  all_goals first | exact BadS.ofC hst1 hs Zo
 | some ps =>
  repeat' (first | (apply gL; first | (apply Wl.ev rfl rfl; exact Zco) | (refine lC 6 164 ?_; first | (refine Zik ?_; rintro t1 ⟨hok1, hp1⟩) | (refine Zin ?_; (first | refine bad_end ?_ | refine bad_endM ?_); intro w hs)) | apply Wl.nil) | (apply gQ; first | (apply Wq.ev rfl rfl; exact Zco)) | (apply lW; first | apply W.seq | apply W.region | (refine Zba ?_; intro w hs)))
  all_goals first | exact GivesS.ofC hst1 hs t1 ⟨hok1, hp1⟩ rfl Zo
theorem unary_one {f : Nat} (ih : NodeC f .un 182 []) (b2 b3 r k : Nat) : OneC (pF f .un) (fnV 182 [ptr r] []) r (nxR b2 b3 r k) :=
 ⟨_, _, _, rfl, has182, fun l o l' e => (pF_good f .un l o l' e).1, fun hst _ e hl hu hT hm => ih hst hu hT hm hl e⟩
theorem binary_low {f k : Nat} (hk : k < 5) (ihb : NodeC f (.bin (k + 1)) 164 [.int .i64 ((k : Int) + 1)]) : NodeC (f + 1) (.bin k) 164 [.int .i64 (k : Nat)] := by
 intro M w0 w H K TR r a lv L l l' o hst hu hT hm hl e
 have hk6 : k < 6 := by omega
 (obtain ⟨A, p1, p2⟩ := hu.front; have hTA : ∀ e ∈ TR, e ∈ A := fun e he => mem_front p1 (hm e he) (hT.2.1 e he); have hst1 := hst.perm p1; have hlim := hT.2.2.1)
 rw [pF] at e
 have hb : binN k = (.bin (k + 1)) := if_pos hk
 rw [hb] at e
 have hc' : ∀ b2 b3 : Nat, OneK (pF f (.bin (k + 1))) 183 [] [ptr b2, ptr b3] r (nxR b2 b3 r k) := fun b2 b3 => by
  obtain ⟨F, bs, cs, h1, hh, hsuf, hc⟩ := (hb ▸ next_one hk ihb b2 b3 r : OneC (pF f (.bin (k + 1))) (fnV 183 [] [ptr b2, ptr b3]) r (nxR b2 b3 r k))
  cases h1
  exact hc
 have hh := has183
 rcases bnd_cases e with ⟨e1, rfl⟩ | ⟨ps, l1, e1, e⟩
 ·(refine Zdf ?_; simp only [argL])
  repeat' (first | (apply gL; first | (apply Wl.ev rfl rfl; exact Zu) | (refine lB 2 ?_; refine wl_box rfl rfl rfl rfl ?_; intro b2) | (refine Zfn ?_; refine wl_box rfl rfl rfl rfl ?_; intro b3) | (refine lC 10 110 ?_; refine wl_callS rfl rfl has110 rfl Zc3 ?_; rintro ⟨tb, q⟩ hq; clear hq) | (refine lV 20 ?_; (first | (refine Zh3 ?_; rintro t1 ⟨hok1, hp1⟩) | (refine Zh6 ?_; (first | refine bad_end ?_ | refine bad_endM ?_); intro w hs))) | apply Wl.nil) | (apply gQ; first | (apply Wq.ev rfl rfl; exact Zu)) | (apply lW; first | apply W.seq | apply W.region | (refine Zz ?_ ?_ <;> (intro h; try exact Zg))) | ((show Wm _ _ _ _ _ _ _ _ _ _ _ _ _ _ _ _); first | ((refine Zgg ?_)) | (refine Zgq ?_) | (refine Zgs ?_) | (refine Zh4 ?_) | (refine Zi6 ?_) | (refine Ziv ?_) | ((fail_if_success (refine Zbn ?_)); (refine Zgc ?_ ?_ <;> (intro h; try exact Zg))) | ((fail_if_success (refine Zbn ?_)); (refine Zga ?_ ?_ <;> (intro h; try exact Zg))) | apply Wm.next) | apply AllO.nil | apply AllO.cons | (refine Or.inl Zk) | ((show _ ∨ Wl _ _ _ _ _ _ _ _ _ _); apply Or.inr) | (refine Zg5 ?_))
  all_goals first | exact BadS.ofC hst1 hs Zo | exact Zy
 have a1 := hl.step e1
 (refine Zdf ?_; simp only [argL])
 repeat' (first | (apply gL; first | (apply Wl.ev rfl rfl; exact Zu) | (refine lB 2 ?_; refine wl_box rfl rfl rfl rfl ?_; intro b2) | (refine Zfn ?_; refine wl_box rfl rfl rfl rfl ?_; intro b3) | (refine lC 10 110 ?_; refine wl_callS rfl rfl has110 rfl Zc3 ?_; rintro ⟨tb, q⟩ hq; clear hq) | (refine lV 20 ?_; (first | (refine Zh3 ?_; rintro t1 ⟨hok1, hp1⟩) | (refine Zh6 ?_; (first | refine bad_end ?_ | refine bad_endM ?_); intro w hs))) | apply Wl.nil) | (apply gQ; first | (apply Wq.ev rfl rfl; exact Zu)) | (apply lW; first | apply W.seq | (refine Zg7 ?_; refine W.loop (X := Nat × Tn × List Ti) (fun x => [(2, ptr b2), (3, ptr b3), (5, .slice (some ⟨tb, 0, none⟩) 6 6), (6, fnV 183 [] [ptr b2, ptr b3]), (7, ptr x.2.1.b)]) (fun x => ⟨b3, true, row [.int .i64 (k : Nat)] 3⟩ :: ⟨b2, true, row [ptr r] 73⟩ :: ⟨r, true, rdP lv (L.length - x.2.2.length)⟩ :: ((A ++ tnH x.2.1) ++ lvH (tb, q))) (fun x => x.1 ≤ f ∧ tnOk x.2.1 ∧ At L (L.length - x.2.2.length) x.2.2 ∧ pF x.1 (.binL k (tnP x.2.1)) x.2.2 = some (o, l')) (fun x => x.1) (f, t1, l1) ⟨Nat.le_refl _, hok1, a1, by rw [hp1]; exact e⟩ Zn (List.Sublist.refl _) ?_) | apply W.region | apply W.block | (refine Zz ?_ ?_ <;> (intro h; try exact Zg))) | ((show Wm _ _ _ _ _ _ _ _ _ _ _ _ _ _ _ _); first | ((refine Zgg ?_)) | (refine Zgq ?_) | (refine Zgs ?_) | (refine Zh4 ?_) | (refine Zi6 ?_) | (refine Ziv ?_) | ((fail_if_success (refine Zbn ?_)); (refine Zgc ?_ ?_ <;> (intro h; try exact Zg))) | ((fail_if_success (refine Zbn ?_)); (refine Zga ?_ ?_ <;> (intro h; try exact Zg))) | apply Wm.next) | apply AllO.nil | apply AllO.cons | (refine Or.inl Zk) | ((show _ ∨ Wl _ _ _ _ _ _ _ _ _ _); apply Or.inr) | (refine Zg5 ?_))
 all_goals try exact Zy
 rintro ⟨g, t, l5⟩ ⟨hg, hok, at5, e⟩
 dsimp only at hg hok at5 e ⊢
 cases g with
 | zero => rw [pF] at e; cases e
 | succ g =>
 rw [pF, hb] at e
 rcases may_cases (levW k) l5 with ⟨s6, l6, rfl, c5⟩ | c5
 ·rw [mayP_yes c5] at e
  have at6 := at5.next
  rcases bnd_cases e with ⟨e6, rfl⟩ | ⟨qs, l7, e6, e⟩
  ·have e6 := pF_mono (show g ≤ f by omega) e6
   repeat' (first | (apply gL; first | (apply Wl.ev rfl rfl; exact Zw) | (refine lA 8 ?_; refine wl_alloc rfl rfl (zeroT rfl) ?_; intro b8) | (refine Zf8 ?_) | (refine lC 27 98 ?_; first | (refine Zij ?_; intro q9 hq9; clear hq9 q9) | (refine Zil ?_; intro q9 hq9; clear hq9 q9)) | (refine lV 38 ?_; (first | (refine Zh3 ?_; rintro t1 ⟨hok1, hp1⟩) | (refine Zh6 ?_; (first | refine bad_end ?_ | refine bad_endM ?_); intro w hs))) | apply Wl.nil) | (apply gQ; first | (apply Wq.ev rfl rfl; exact Zw)) | (apply lW; first | apply W.seq | ((show W _ _ _ _ _ _ (.inl (.region 6 _ true) :: _) _ _); refine W.regionM [] (⟨b3, true, row [.int .i64 (k : Nat)] 3⟩ :: ⟨b2, true, row [ptr r] 73⟩ :: lvH (tb, q)) (⟨b3, true, row [.int .i64 (k : Nat)] 3⟩ :: ⟨b2, true, row [ptr r] 73⟩ :: lvH (tb, q)) mixed ?_) | ((show W _ _ _ _ _ _ (.inl (.region 9 _ true) :: _) _ _); refine W.regionM [] [⟨b8, true, row (tiC s6) 67⟩] [⟨b8, true, row (tiC s6) 67⟩] mixed ?_) | apply W.region | apply W.block | apply W.skip | (refine Zbg ?_)) | ((show Wm _ _ _ _ _ _ _ _ _ _ _ _ _ _ _ _); first | ((refine Zgg ?_)) | (refine Zgq ?_) | (refine Zgs ?_) | (refine Zhs ?_) | (refine Zkp ?_) | (refine Zj9 ?_) | ((fail_if_success (refine Zbn ?_)); (refine Zgc ?_ ?_ <;> (intro h; try exact Zg))) | ((fail_if_success (refine Zbn ?_)); (refine Zga ?_ ?_ <;> (intro h; try exact Zg))) | apply Wm.next) | apply AllO.nil | apply AllO.cons | (refine Or.inl Zk) | ((show _ ∨ Wl _ _ _ _ _ _ _ _ _ _); apply Or.inr) | (refine Zgt ?_))
   all_goals first | exact BadS.ofC hst1 hs Zo
  ·have e6 := pF_mono (show g ≤ f by omega) e6
   have at7 := at6.step e6
   repeat' (first | (apply gL; first | (apply Wl.ev rfl rfl; exact Zw) | (refine lA 8 ?_; refine wl_alloc rfl rfl (zeroT rfl) ?_; intro b8) | (refine Zf8 ?_) | (refine lC 27 98 ?_; first | (refine Zij ?_; intro q9 hq9; clear hq9 q9) | (refine Zil ?_; intro q9 hq9; clear hq9 q9)) | (refine lV 38 ?_; (first | (refine Zh3 ?_; rintro t1 ⟨hok1, hp1⟩) | (refine Zh6 ?_; (first | refine bad_end ?_ | refine bad_endM ?_); intro w hs))) | (refine lC _ 93 ?_; refine wl_callS rfl rfl has93 rfl Zbm ?_; intro bn hq; clear hq) | apply Wl.nil | (apply wl_buildSlice rfl rfl (slT rfl) (szT rfl) (zeroT rfl) rfl Zf6 rfl; exact Zt; intro b)) | (apply gQ; first | (apply Wq.ev rfl rfl; exact Zw)) | (apply lW; first | apply W.seq | ((show W _ _ _ _ _ _ (.inl (.region 6 _ true) :: _) _ _); refine W.regionM [] (⟨b3, true, row [.int .i64 (k : Nat)] 3⟩ :: ⟨b2, true, row [ptr r] 73⟩ :: lvH (tb, q)) (⟨b3, true, row [.int .i64 (k : Nat)] 3⟩ :: ⟨b2, true, row [ptr r] 73⟩ :: lvH (tb, q)) mixed ?_) | ((show W _ _ _ _ _ _ (.inl (.region 9 _ true) :: _) _ _); refine W.regionM [] [⟨b8, true, row (tiC s6) 67⟩] [⟨b8, true, row (tiC s6) 67⟩] mixed ?_) | apply W.region | apply W.block | apply W.blk | apply W.skip | (refine Zbg ?_)) | ((show Wm _ _ _ _ _ _ _ _ _ _ _ _ _ _ _ _); first | ((refine Zgg ?_)) | (refine Zgq ?_) | (refine Zgs ?_) | (refine Zhs ?_) | (refine Zkp ?_) | (refine Zj9 ?_) | ((fail_if_success (refine Zbn ?_)); (refine Zgc ?_ ?_ <;> (intro h; try exact Zg))) | ((fail_if_success (refine Zbn ?_)); (refine Zga ?_ ?_ <;> (intro h; try exact Zg))) | apply Wm.next) | apply AllO.nil | apply AllO.cons | (refine Or.inl Zk) | ((show _ ∨ Wl _ _ _ _ _ _ _ _ _ _); apply Or.inr) | (refine Zgt ?_))
   all_goals (refine Zc8 ?_; exact W.again (g, tnNew bn 15 [] s6.t 0 s6.a b 2 [t, t1], l7) ⟨by omega, tnOk_new rfl Zf6 (tnsOk2 hok hok1), at7, by rw [tnP_new, tnsP2, hp1]; exact e⟩ Ze6 Zn (List.Sublist.refl _))
 ·rw [mayP_no c5] at e
  cases e
  repeat' (first | (apply gL; first | (apply Wl.ev rfl rfl; exact Zw) | (refine lA 8 ?_; refine wl_alloc rfl rfl (zeroT rfl) ?_; intro b8) | (refine Zf8 ?_) | (refine lC 27 98 ?_; first | (refine Zij ?_; intro q9 hq9; clear hq9 q9) | (refine Zil ?_; intro q9 hq9; clear hq9 q9)) | apply Wl.nil) | (apply gQ; first | (apply Wq.ev rfl rfl; exact Zw)) | (apply lW; first | apply W.seq | ((show W _ _ _ _ _ _ (.inl (.region 6 _ true) :: _) _ _); refine W.regionM [] (⟨b3, true, row [.int .i64 (k : Nat)] 3⟩ :: ⟨b2, true, row [ptr r] 73⟩ :: lvH (tb, q)) (⟨b3, true, row [.int .i64 (k : Nat)] 3⟩ :: ⟨b2, true, row [ptr r] 73⟩ :: lvH (tb, q)) mixed ?_) | apply W.region | apply W.block | (refine Zbk ?_) | (refine Zba ?_; intro w hs)) | ((show Wm _ _ _ _ _ _ _ _ _ _ _ _ _ _ _ _); first | ((refine Zgg ?_)) | (refine Zgq ?_) | (refine Zgs ?_) | (refine Zhs ?_) | (refine Zkp ?_) | (refine Zj9 ?_) | ((fail_if_success (refine Zbn ?_)); (refine Zgc ?_ ?_ <;> (intro h; try exact Zg))) | ((fail_if_success (refine Zbn ?_)); (refine Zga ?_ ?_ <;> (intro h; try exact Zg))) | apply Wm.next) | apply AllO.nil | apply AllO.cons | (refine Or.inl Zk) | ((show _ ∨ Wl _ _ _ _ _ _ _ _ _ _); apply Or.inr) | (refine Zgt ?_))
  all_goals first | exact GivesS.ofC hst1 hs t ⟨hok, rfl⟩ rfl Zo
theorem binary_top {f k : Nat} (hk : k = 5) (ihu : NodeC f .un 182 []) : NodeC (f + 1) (.bin k) 164 [.int .i64 (k : Nat)] := by
 intro M w0 w H K TR r a lv L l l' o hst hu hT hm hl e
 have hk6 : k < 6 := by omega
 (obtain ⟨A, p1, p2⟩ := hu.front; have hTA : ∀ e ∈ TR, e ∈ A := fun e he => mem_front p1 (hm e he) (hT.2.1 e he); have hst1 := hst.perm p1; have hlim := hT.2.2.1)
 rw [pF] at e
 have hb : binN k = .un := if_neg Zf7
 rw [hb] at e
 have hc' : ∀ b2 b3 : Nat, OneK (pF f .un) 182 [ptr r] [] r (nxR b2 b3 r k) := fun b2 b3 => by
  obtain ⟨F, bs, cs, h1, hh, hsuf, hc⟩ := unary_one ihu b2 b3 r k
  cases h1
  exact hc
 have hh := has182
 rcases bnd_cases e with ⟨e1, rfl⟩ | ⟨ps, l1, e1, e⟩
 ·(refine Zdf ?_; simp only [argL])
  repeat' (first | (apply gL; first | (apply Wl.ev rfl rfl; exact Zu) | (refine lB 2 ?_; refine wl_box rfl rfl rfl rfl ?_; intro b2) | (refine Zfn ?_; refine wl_box rfl rfl rfl rfl ?_; intro b3) | (refine lC 10 110 ?_; refine wl_callS rfl rfl has110 rfl Zc3 ?_; rintro ⟨tb, q⟩ hq; clear hq) | (refine lV 20 ?_; (first | (refine Zh3 ?_; rintro t1 ⟨hok1, hp1⟩) | (refine Zh6 ?_; (first | refine bad_end ?_ | refine bad_endM ?_); intro w hs))) | apply Wl.nil) | (apply gQ; first | (apply Wq.ev rfl rfl; exact Zu)) | (apply lW; first | apply W.seq | apply W.region | apply W.skip | (refine Zz ?_ ?_ <;> (intro h; try exact Zg))) | ((show Wm _ _ _ _ _ _ _ _ _ _ _ _ _ _ _ _); first | ((refine Zgg ?_)) | (refine Zgq ?_) | (refine Zgs ?_) | (refine Zh4 ?_) | (refine Zi6 ?_) | (refine Ziv ?_) | ((fail_if_success (refine Zbn ?_)); (refine Zgc ?_ ?_ <;> (intro h; try exact Zg))) | ((fail_if_success (refine Zbn ?_)); (refine Zga ?_ ?_ <;> (intro h; try exact Zg))) | apply Wm.next) | apply AllO.nil | apply AllO.cons | (refine Or.inl Zk) | ((show _ ∨ Wl _ _ _ _ _ _ _ _ _ _); apply Or.inr) | (refine Zg5 ?_))
  all_goals first | exact BadS.ofC hst1 hs Zo | exact Zy
 have a1 := hl.step e1
 (refine Zdf ?_; simp only [argL])
 repeat' (first | (apply gL; first | (apply Wl.ev rfl rfl; exact Zu) | (refine lB 2 ?_; refine wl_box rfl rfl rfl rfl ?_; intro b2) | (refine Zfn ?_; refine wl_box rfl rfl rfl rfl ?_; intro b3) | (refine lC 10 110 ?_; refine wl_callS rfl rfl has110 rfl Zc3 ?_; rintro ⟨tb, q⟩ hq; clear hq) | (refine lV 20 ?_; (first | (refine Zh3 ?_; rintro t1 ⟨hok1, hp1⟩) | (refine Zh6 ?_; (first | refine bad_end ?_ | refine bad_endM ?_); intro w hs))) | apply Wl.nil) | (apply gQ; first | (apply Wq.ev rfl rfl; exact Zu)) | (apply lW; first | apply W.seq | (refine Zg7 ?_; refine W.loop (X := Nat × Tn × List Ti) (fun x => [(2, ptr b2), (3, ptr b3), (5, .slice (some ⟨tb, 0, none⟩) 6 6), (6, fnV 182 [ptr r] []), (7, ptr x.2.1.b)]) (fun x => ⟨b3, true, row [.int .i64 (k : Nat)] 3⟩ :: ⟨b2, true, row [ptr r] 73⟩ :: ⟨r, true, rdP lv (L.length - x.2.2.length)⟩ :: ((A ++ tnH x.2.1) ++ lvH (tb, q))) (fun x => x.1 ≤ f ∧ tnOk x.2.1 ∧ At L (L.length - x.2.2.length) x.2.2 ∧ pF x.1 (.binL k (tnP x.2.1)) x.2.2 = some (o, l')) (fun x => x.1) (f, t1, l1) ⟨Nat.le_refl _, hok1, a1, by rw [hp1]; exact e⟩ Zn (List.Sublist.refl _) ?_) | apply W.region | apply W.block | apply W.skip | (refine Zz ?_ ?_ <;> (intro h; try exact Zg))) | ((show Wm _ _ _ _ _ _ _ _ _ _ _ _ _ _ _ _); first | ((refine Zgg ?_)) | (refine Zgq ?_) | (refine Zgs ?_) | (refine Zh4 ?_) | (refine Zi6 ?_) | (refine Ziv ?_) | ((fail_if_success (refine Zbn ?_)); (refine Zgc ?_ ?_ <;> (intro h; try exact Zg))) | ((fail_if_success (refine Zbn ?_)); (refine Zga ?_ ?_ <;> (intro h; try exact Zg))) | apply Wm.next) | apply AllO.nil | apply AllO.cons | (refine Or.inl Zk) | ((show _ ∨ Wl _ _ _ _ _ _ _ _ _ _); apply Or.inr) | (refine Zg5 ?_))
 all_goals try exact Zy
 rintro ⟨g, t, l5⟩ ⟨hg, hok, at5, e⟩
 dsimp only at hg hok at5 e ⊢
 cases g with
 | zero => rw [pF] at e; cases e
 | succ g =>
 rw [pF, hb] at e
 rcases may_cases (levW k) l5 with ⟨s6, l6, rfl, c5⟩ | c5
 ·rw [mayP_yes c5] at e
  have at6 := at5.next
  rcases bnd_cases e with ⟨e6, rfl⟩ | ⟨qs, l7, e6, e⟩
  ·have e6 := pF_mono (show g ≤ f by omega) e6
   repeat' (first | (apply gL; first | (apply Wl.ev rfl rfl; exact Zw) | (refine lA 8 ?_; refine wl_alloc rfl rfl (zeroT rfl) ?_; intro b8) | (refine Zf8 ?_) | (refine lC 27 98 ?_; first | (refine Zij ?_; intro q9 hq9; clear hq9 q9) | (refine Zil ?_; intro q9 hq9; clear hq9 q9)) | (refine lV 38 ?_; (first | (refine Zh3 ?_; rintro t1 ⟨hok1, hp1⟩) | (refine Zh6 ?_; (first | refine bad_end ?_ | refine bad_endM ?_); intro w hs))) | apply Wl.nil) | (apply gQ; first | (apply Wq.ev rfl rfl; exact Zw)) | (apply lW; first | apply W.seq | ((show W _ _ _ _ _ _ (.inl (.region 6 _ true) :: _) _ _); refine W.regionM [] (⟨b3, true, row [.int .i64 (k : Nat)] 3⟩ :: ⟨b2, true, row [ptr r] 73⟩ :: lvH (tb, q)) (⟨b3, true, row [.int .i64 (k : Nat)] 3⟩ :: ⟨b2, true, row [ptr r] 73⟩ :: lvH (tb, q)) mixed ?_) | ((show W _ _ _ _ _ _ (.inl (.region 9 _ true) :: _) _ _); refine W.regionM [] [⟨b8, true, row (tiC s6) 67⟩] [⟨b8, true, row (tiC s6) 67⟩] mixed ?_) | apply W.region | apply W.block | apply W.skip | (refine Zbg ?_)) | ((show Wm _ _ _ _ _ _ _ _ _ _ _ _ _ _ _ _); first | ((refine Zgg ?_)) | (refine Zgq ?_) | (refine Zgs ?_) | (refine Zhs ?_) | (refine Zkp ?_) | (refine Zj9 ?_) | ((fail_if_success (refine Zbn ?_)); (refine Zgc ?_ ?_ <;> (intro h; try exact Zg))) | ((fail_if_success (refine Zbn ?_)); (refine Zga ?_ ?_ <;> (intro h; try exact Zg))) | apply Wm.next) | apply AllO.nil | apply AllO.cons | (refine Or.inl Zk) | ((show _ ∨ Wl _ _ _ _ _ _ _ _ _ _); apply Or.inr) | (refine Zgt ?_))
   all_goals first | exact BadS.ofC hst1 hs Zo
  ·have e6 := pF_mono (show g ≤ f by omega) e6
   have at7 := at6.step e6
   repeat' (first | (apply gL; first | (apply Wl.ev rfl rfl; exact Zw) | (refine lA 8 ?_; refine wl_alloc rfl rfl (zeroT rfl) ?_; intro b8) | (refine Zf8 ?_) | (refine lC 27 98 ?_; first | (refine Zij ?_; intro q9 hq9; clear hq9 q9) | (refine Zil ?_; intro q9 hq9; clear hq9 q9)) | (refine lV 38 ?_; (first | (refine Zh3 ?_; rintro t1 ⟨hok1, hp1⟩) | (refine Zh6 ?_; (first | refine bad_end ?_ | refine bad_endM ?_); intro w hs))) | (refine lC _ 93 ?_; refine wl_callS rfl rfl has93 rfl Zbm ?_; intro bn hq; clear hq) | apply Wl.nil | (apply wl_buildSlice rfl rfl (slT rfl) (szT rfl) (zeroT rfl) rfl Zf6 rfl; exact Zt; intro b)) | (apply gQ; first | (apply Wq.ev rfl rfl; exact Zw)) | (apply lW; first | apply W.seq | ((show W _ _ _ _ _ _ (.inl (.region 6 _ true) :: _) _ _); refine W.regionM [] (⟨b3, true, row [.int .i64 (k : Nat)] 3⟩ :: ⟨b2, true, row [ptr r] 73⟩ :: lvH (tb, q)) (⟨b3, true, row [.int .i64 (k : Nat)] 3⟩ :: ⟨b2, true, row [ptr r] 73⟩ :: lvH (tb, q)) mixed ?_) | ((show W _ _ _ _ _ _ (.inl (.region 9 _ true) :: _) _ _); refine W.regionM [] [⟨b8, true, row (tiC s6) 67⟩] [⟨b8, true, row (tiC s6) 67⟩] mixed ?_) | apply W.region | apply W.block | apply W.blk | apply W.skip | (refine Zbg ?_)) | ((show Wm _ _ _ _ _ _ _ _ _ _ _ _ _ _ _ _); first | ((refine Zgg ?_)) | (refine Zgq ?_) | (refine Zgs ?_) | (refine Zhs ?_) | (refine Zkp ?_) | (refine Zj9 ?_) | ((fail_if_success (refine Zbn ?_)); (refine Zgc ?_ ?_ <;> (intro h; try exact Zg))) | ((fail_if_success (refine Zbn ?_)); (refine Zga ?_ ?_ <;> (intro h; try exact Zg))) | apply Wm.next) | apply AllO.nil | apply AllO.cons | (refine Or.inl Zk) | ((show _ ∨ Wl _ _ _ _ _ _ _ _ _ _); apply Or.inr) | (refine Zgt ?_))
   all_goals (refine Zc8 ?_; exact W.again (g, tnNew bn 15 [] s6.t 0 s6.a b 2 [t, t1], l7) ⟨by omega, tnOk_new rfl Zf6 (tnsOk2 hok hok1), at7, by rw [tnP_new, tnsP2, hp1]; exact e⟩ Ze6 Zn (List.Sublist.refl _))
 ·rw [mayP_no c5] at e
  cases e
  repeat' (first | (apply gL; first | (apply Wl.ev rfl rfl; exact Zw) | (refine lA 8 ?_; refine wl_alloc rfl rfl (zeroT rfl) ?_; intro b8) | (refine Zf8 ?_) | (refine lC 27 98 ?_; first | (refine Zij ?_; intro q9 hq9; clear hq9 q9) | (refine Zil ?_; intro q9 hq9; clear hq9 q9)) | apply Wl.nil) | (apply gQ; first | (apply Wq.ev rfl rfl; exact Zw)) | (apply lW; first | apply W.seq | ((show W _ _ _ _ _ _ (.inl (.region 6 _ true) :: _) _ _); refine W.regionM [] (⟨b3, true, row [.int .i64 (k : Nat)] 3⟩ :: ⟨b2, true, row [ptr r] 73⟩ :: lvH (tb, q)) (⟨b3, true, row [.int .i64 (k : Nat)] 3⟩ :: ⟨b2, true, row [ptr r] 73⟩ :: lvH (tb, q)) mixed ?_) | apply W.region | apply W.block | (refine Zbk ?_) | (refine Zba ?_; intro w hs)) | ((show Wm _ _ _ _ _ _ _ _ _ _ _ _ _ _ _ _); first | ((refine Zgg ?_)) | (refine Zgq ?_) | (refine Zgs ?_) | (refine Zhs ?_) | (refine Zkp ?_) | (refine Zj9 ?_) | ((fail_if_success (refine Zbn ?_)); (refine Zgc ?_ ?_ <;> (intro h; try exact Zg))) | ((fail_if_success (refine Zbn ?_)); (refine Zga ?_ ?_ <;> (intro h; try exact Zg))) | apply Wm.next) | apply AllO.nil | apply AllO.cons | (refine Or.inl Zk) | ((show _ ∨ Wl _ _ _ _ _ _ _ _ _ _); apply Or.inr) | (refine Zgt ?_))
  all_goals first | exact GivesS.ofC hst1 hs t ⟨hok, rfl⟩ rfl Zo
end Go.Proofs.YtbinaeemcidicaaGreatDoor
