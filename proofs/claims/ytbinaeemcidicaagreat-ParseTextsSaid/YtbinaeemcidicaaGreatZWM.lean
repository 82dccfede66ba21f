/- Walks: the document's reader: a block. No condition. -/
import Derived.Test.YtbinaeemcidicaaGreatZWX
set_option maxRecDepth 100000
set_option maxHeartbeats 16000000
namespace Go.Proofs.YtbinaeemcidicaaGreat
open Go.PB Go.RowKit
attribute [local irreducible] Go.Calls
theorem rblock_step {f : Nat} (hfb : f ≤ 1000000000) (ihs : RefC f .stmt 110 []) : RefC (f + 1) .blk 98 [] := by
 intro M w0 w H K TR r lv L s s' ps hst hu hT hm hsf e
 (obtain ⟨A, p1, p2⟩ := hu.front; have hTA : ∀ e ∈ TR, e ∈ A := fun e he => mem_front p1 (hm e he) (hT.2.1 e he); have hst1 := hst.perm p1; have hlim := hT.2.2.1)
 obtain ⟨lp, lc, rfl⟩ := hT.1.len
 rw [rF] at e
 unfold rtk at e
 obtain ⟨t, ht⟩ : ∃ t, hdR s = t := ⟨_, rfl⟩
 obtain ⟨s2, h2⟩ : ∃ s2, tkR (isA [[123]] (hdR s)) s = s2 := ⟨_, rfl⟩
 rw [h2, ht] at e
 have f2 := tk_suf h2 hsf
 obtain ⟨ps1, s1, e1, e⟩ := bdR_inv e
 cases e
 (refine calls_of_W (vs := [ptr r]) Tryz.func98 rfl Tryz.ntmps98 (Nat.le_of_ble_eq_true rfl) hst1.fromHere ?_; simp only [argL])
 repeat' (first | (apply gL; first | (apply Wl.ev rfl rfl; exact Zev) | (refine lC 5 97 ?_; refine wl_callS rfl rfl has97 rfl (fun w hs => rsignV hs Ze h2 ht hT Zc Zf5) ?_; intro q hq; clear hq q) | (refine lC 7 40 ?_; refine wl_callS rfl rfl has40 rfl Zbg ?_; intro pn hq; clear hq) | apply Wl.nil) | (apply gQ; first | (apply Wq.ev rfl rfl; exact Zev)) | (apply lW; first | apply W.seq | (refine W.reC (H' := ⟨pn, true, rnO 6 [] [] 0 t.a (ownV ([] : List Tn).length none)⟩ :: ⟨r, true, rdS (.slice lp L.length lc) L s2⟩ :: ((A ++ rnsH []) ++ ownH 55 none)) Zcf ?_; refine W.loop (X := Nat × List Tn × Ow × Rs) (fun x => [(0, ptr r), (3, ptr pn)]) (fun x => ⟨pn, true, rnO 6 [] [] 0 t.a (ownV x.2.1.length x.2.2.1)⟩ :: ⟨r, true, rdS (.slice lp L.length lc) L x.2.2.2⟩ :: ((A ++ rnsH x.2.1) ++ ownH 55 x.2.2.1)) (fun x => x.1 ≤ f ∧ tnsOk x.2.1 ∧ ownOk x.2.1.length 1 (ptrs x.2.1) x.2.2.1 ∧ x.2.1.length + x.1 ≤ f ∧ x.2.2.2.1 <:+ L ∧ rF x.1 (.stms (tnsP x.2.1)) x.2.2.2 = some (ps1, s')) (fun x => x.1) (f, [], none, s2) ⟨Nat.le_refl _, by rw [tnsOk]; trivial, ⟨rfl, rfl⟩, by simp, f2, by rw [tnsP]; exact e1⟩ Zm (List.Sublist.refl _) ?_) | apply W.region | apply W.block))
 rintro ⟨g0, ts, o1, ⟨l6, b6⟩⟩ ⟨hg, hok, hown, hlen, f6, eI⟩
 dsimp only at hg hok hown hlen f6 eI ⊢
 have f6' : ((l6, b6) : Rs).1 <:+ L := f6
 have hle := f6.length_le
 cases g0 with
 | zero => rw [rF] at eI; cases eI
 | succ g =>
 rw [rF] at eI
 clear e1
 by_cases hx : b6 = true ∨ l6 = [] ∨ isA [[125]] (hdR (l6, b6)) = true
 ·rw [if_pos hx] at eI
  unfold rtk at eI
  obtain ⟨s7, h7⟩ : ∃ s7, tkR (isA [[125]] (hdR (l6, b6))) (l6, b6) = s7 := ⟨_, rfl⟩
  rw [h7] at eI
  cases eI
  cases b6 with
  | true =>
   clear hx
   repeat' (first | (apply gL; first | (apply Wl.ev rfl rfl; exact Zev) | (refine lC 42 97 ?_; refine wl_callS rfl rfl has97 rfl Zjp ?_; intro q hq; clear hq q) | apply Wl.nil) | (apply gQ; first | (apply Wq.ev rfl rfl; exact Zev) | apply Wq.nil | (refine Zb4 ?_)) | (apply lW; first | apply W.seq | (refine Zgf ?_) | apply W.region | (refine Zbm ?_) | (refine Zbc ?_) | (refine Zx ?_; intro w hs)))
   all_goals first | ((try simp only [row_rn] at hs); exact rnode_own hst1 hs ts o1 _ hok rfl hown Zc8) | contradiction | exact Zz
  | false =>
  cases l6 with
  | nil =>
   clear hx
   have hge : ¬((L.length - (([], false) : Rs).1.length : Nat) : Int) < (L.length : Int) := by simp only [List.length_nil] at *; omega
   repeat' (first | (apply gL; first | (apply Wl.ev rfl rfl; exact Zev) | (refine lC 42 97 ?_; refine wl_callS rfl rfl has97 rfl Zjp ?_; intro q hq; clear hq q) | apply Wl.nil) | (apply gQ; first | (apply Wq.ev rfl rfl; exact Zev) | apply Wq.nil | (refine Zb4 ?_) | ((fail_if_success (apply Wq.chk rfl)); refine Wq.split rfl rfl ?_ ?_ <;> (intro h; try exact Za))) | (apply lW; first | apply W.seq | (refine Zgf ?_) | apply W.region | (refine Zbm ?_) | (refine Zbc ?_) | (refine Zx ?_; intro w hs)))
   all_goals first | ((try simp only [row_rn] at hs); exact rnode_own hst1 hs ts o1 _ hok rfl hown Zc8) | contradiction | exact Zz
  | cons t0 l7 =>
   have hq := (hx.resolve_left Zgn).resolve_left Zgn
   clear hx
   have hlt : ((L.length - ((t0 :: l7, false) : Rs).1.length : Nat) : Int) < (L.length : Int) := by simp only [List.length_cons] at *; omega
   repeat' (first | (apply gL; first | (apply Wl.ev rfl rfl; exact Zev) | (refine lC 42 97 ?_; refine wl_callS rfl rfl has97 rfl Zjp ?_; intro q hq; clear hq q) | apply Wl.nil) | (apply gQ; first | (apply Wq.ev rfl rfl; exact Zev) | (refine qC 27 62 ?_; refine Wq.call0 rfl rfl has62 rfl Zhx ?_) | apply Wq.nil | ((fail_if_success (apply Wq.chk rfl)); refine Wq.split rfl rfl ?_ ?_ <;> (intro h; try exact Za))) | (apply lW; first | apply W.seq | (refine Zgf ?_) | apply W.region | (refine Zbm ?_) | (refine Zbc ?_) | (refine Zx ?_; intro w hs)))
   all_goals first | ((try simp only [row_rn] at hs); exact rnode_own hst1 hs ts o1 _ hok rfl hown Zc8) | contradiction | exact Zz
 ·rw [if_neg hx] at eI
  cases b6 with
  | true => exact absurd (.inl rfl) hx
  | false =>
  cases l6 with
  | nil => exact absurd (.inr (.inl rfl)) hx
  | cons t0 l7 =>
   have hq : isA [[125]] (hdR (t0 :: l7, false)) = false := by
    cases h : isA [[125]] (hdR (t0 :: l7, false)) with
    | false => rfl
    | true => exact absurd (.inr (.inr h)) hx
   clear hx
   have hlt : ((L.length - ((t0 :: l7, false) : Rs).1.length : Nat) : Int) < (L.length : Int) := by simp only [List.length_cons] at *; omega
   obtain ⟨ps5, s5, e5, eN⟩ := bdR_inv eI
   have f5 := r_suf e5 f6'
   have e5f := rF_up (show g ≤ f by omega) e5
   clear e5
   repeat' (first | (apply gL; first | (apply Wl.ev rfl rfl; exact Zev) | (refine Zge ?_; try simp only [List.set]) | (refine lC 36 110 ?_; refine wl_callS rfl rfl has110 rfl (fun w hs => rcall ihs hs Zk e5f hT Zc Zf5) ?_; rintro n1 ⟨hok1, hp1⟩) | ((show Wl _ _ _ _ _ _ _ (⟨some 37, .buildSlice _ _ _, _, _, _, _⟩ :: _) _ _); apply wl_buildSlice rfl rfl (slT rfl) (szT rfl) (zeroT rfl) rfl Zf7 rfl; exact Zq; intro bq) | ((show Wl _ _ _ _ _ _ _ (⟨some 38, .call ⟨.builtin .append, _, _⟩, _, _, _, _⟩ :: _) _ _); refine Wl.reC (H' := ⟨bq, true, row [ptr n1.b] 55⟩ :: (⟨pn, true, rnO 6 [] [] 0 t.a (ownV ts.length o1)⟩ : Ent) :: ⟨r, true, rdS (.slice lp L.length lc) L s5⟩ :: ((A ++ rnsH (ts ++ [n1])) ++ ownH 55 o1)) Zbs ?_; refine wl_append_own (m := ts.length) (k := 1) (o := o1) (xs := ptrs ts) (news := [ptr n1.b]) rfl rfl (slT rfl) (szT rfl) (byT rfl) (zeroT rfl) rfl rfl rfl hown Zd rfl (fun j v h => by simpa using h) Zbn Zga Zbj Zga Zt ?_; intro o2 hown2)) | (apply gQ; first | (apply Wq.ev rfl rfl; exact Zev) | (refine qC 27 62 ?_; refine Wq.call0 rfl rfl has62 rfl Zhx ?_) | apply Wq.nil | ((fail_if_success (apply Wq.chk rfl)); refine Wq.split rfl rfl ?_ ?_ <;> (intro h; try exact Za))) | (apply lW; first | apply W.seq | ((show W _ _ _ _ _ _ (.inl (.region 3 _ true) :: _) _ _); refine W.regionM [11] [] [(⟨pn, true, rnO 6 [] [] 0 t.a (ownV ts.length o1)⟩ : Ent)] mixed ?_) | (refine Zgf ?_) | apply W.block | apply W.blk | apply W.skip | (refine Zbh ?_)) | ((show Wm _ _ _ _ _ _ _ _ _ _ _ _ _ _ _ _); first | ((refine Zgg ?_)) | (refine Zgj ?_) | (refine Zgm ?_) | (refine Zhz ?_) | (refine Zh0 ?_) | (refine Zhy ?_) | ((fail_if_success (refine Zba ?_)); (refine Zgd ?_ ?_ <;> (intro h; try exact Za))) | ((fail_if_success (refine Zba ?_)); (refine Zgc ?_ ?_ <;> (intro h; try exact Za))) | apply Wm.next) | apply AllO.nil | apply AllO.cons | (refine Or.inl Zj) | ((show _ ∨ Wl _ _ _ _ _ _ _ _ _ _); apply Or.inr) | (refine Zgl ?_))
   all_goals first | (refine W.reC (H' := (⟨pn, true, rnO 6 [] [] 0 t.a (ownV (ts ++ [n1]).length o2)⟩ : Ent) :: ⟨r, true, rdS (.slice lp L.length lc) L s5⟩ :: ((A ++ rnsH (ts ++ [n1])) ++ ownH 55 o2)) Zb5 ?_; exact W.again (g, ts ++ [n1], o2, s5) ⟨Zd3, tnsOk_app hok (tnsOk1 hok1), own_snoc hown2, by dsimp only; rw [len_snocR ts n1]; omega, f5, by rw [tnsP_app, tnsP1, hp1]; exact eN⟩ Zc1 Zm (List.Sublist.refl _)) | contradiction | exact Zz
end Go.Proofs.YtbinaeemcidicaaGreat
