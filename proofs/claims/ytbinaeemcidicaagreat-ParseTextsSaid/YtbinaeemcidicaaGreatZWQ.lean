/- Walks: the document's reader: a decl or a func, all of a shader. No condition. -/
import Derived.Test.YtbinaeemcidicaaGreatZWX
set_option maxRecDepth 100000
set_option maxHeartbeats 16000000
namespace Go.Proofs.YtbinaeemcidicaaGreat
open Go.PB Go.RowKit
attribute [local irreducible] Go.Calls
theorem isA_none {ws : List (List UInt8)} {t : Ti} (h : ∀ a ∈ ws, isA [a] t = false) : isA ws t = false := by
 unfold isA at *
 cases hk : (decide (t.k = 4) || decide (t.k = 1)) with
 | false => rfl
 | true =>
  rw [hk] at h
  cases hc : ws.contains t.t with
  | false => rfl
  | true =>
   have := h t.t (by simpa using hc)
   simp at this
theorem isA_in {ws : List (List UInt8)} {u : List UInt8} {t : Ti} (h : isA [u] t = true) (hu : u ∈ ws) : isA ws t = true := by
 unfold isA at *
 rw [Bool.and_eq_true] at h ⊢
 refine ⟨h.1, ?_⟩
 have : t.t = u := by simpa using h.2
 rw [this]
 simpa using hu
theorem isA_txt {u : List UInt8} {t : Ti} (h : isA [u] t = true) : t.t = u := by
 unfold isA at h
 rw [Bool.and_eq_true] at h
 simpa using h.2
theorem qua_txt {t : Ti} (h : isA quaW t = true) : ¬t.t = [] := fun e => by
 unfold isA at h
 rw [Bool.and_eq_true, e] at h
 exact absurd h.2 Zf7
def topX (s : Rs) (x : List UInt8 × Rs) : Prop := (isA quaW (hdR s) = true ∧ x.1 = (hdR s).t ∧ x.2 = tkR true s) ∨ (isA quaW (hdR s) = false ∧ x.1 = [] ∧ x.2 = s)
theorem rtop_ok {f : Nat} (ihf : ∀ w : Ti, RefG (fun s => if (!s.2 && (namedT (hdR s) && anyA [[40]] (hd2R s))) = true then rF f (.func w) s else none) 66 [.int .i64 w.a, st w.t]) (ihv : ∀ (a : Int) (ty tx : List UInt8), RefC f (.decl a ty tx) 67 [.int .i64 a, st ty, st tx]) :
  RefG (fun s => topR (fun n s => rF f n s) s) 41 [] := by
 intro M w0 w H K TR r lv L s s' ps hst hu hT hm hsf e
 (obtain ⟨A, p1, p2⟩ := hu.front; have hTA : ∀ e ∈ TR, e ∈ A := fun e he => mem_front p1 (hm e he) (hT.2.1 e he); have hst1 := hst.perm p1; have hlim := hT.2.2.1)
 dsimp only at e
 unfold topR at e
 obtain ⟨t, ht⟩ : ∃ t, hdR s = t := ⟨_, rfl⟩
 (refine calls_of_W (vs := [ptr r]) Tryz.func41 rfl Tryz.ntmps41 (Nat.le_of_ble_eq_true rfl) hst1.fromHere ?_; simp only [argL])
 repeat' (first | (apply gL; first | (apply Wl.ev rfl rfl; exact Zev) | (refine lC 9 61 ?_; refine wl_call0 rfl rfl has61 rfl Zh7 ?_) | apply Wl.nil) | (apply gQ; first | (apply Wq.ev rfl rfl; exact Zev)) | (apply lW; first | apply W.seq | ((show W _ _ _ _ _ _ (.inl (.block 0 _) :: .inl _ :: _) _ _); refine W.join (X := List UInt8 × Rs) (fun x => [(0, ptr r), (3, .int .i64 t.a), (4, st x.1)]) (fun x => ⟨r, true, rdS lv L x.2⟩ :: A) (fun x => topX s x) ?_ ?_) | (refine W.loop (X := Nat) (fun j => [(0, ptr r), (3, .int .i64 t.a), (4, st []), (11, .agg (strV quaW).toArray), (12, .int .i64 (j : Nat))]) (fun _ => ⟨r, true, rdS lv L s⟩ :: A) (fun j => j ≤ 4 ∧ ∀ a ∈ quaW.take j, isA [a] (hdR s) = false) (fun j => 4 - j) 0 ⟨Nat.zero_le _, by simp⟩ Zm Zb ?_) | apply W.region | apply W.block))
 ·rintro j ⟨hj, hall⟩
  by_cases hlt : j < 4
  ·have g0 : (strV quaW)[((j : Nat) : Int).toNat]? = some (st (quaW.getD j [])) := strV_get (l := quaW) (j := ((j : Nat) : Int).toNat) hlt
   obtain ⟨y, hy⟩ : ∃ y, quaW.getD j [] = y := ⟨_, rfl⟩
   have hyq : y ∈ quaW := by
    rw [← hy]
    simp [List.getD, show j < quaW.length from hlt]
   rw [hy] at g0
   obtain ⟨s2, h2⟩ : ∃ x, tkR true s = x := ⟨_, rfl⟩
   cases hq : isA [y] (hdR s) with
   | true =>
    have hty : t.t = y := by rw [← ht]; exact isA_txt hq
    repeat' (first | (apply gL; first | (apply Wl.ev rfl rfl; exact Zci) | (refine lC 17 62 ?_; refine wl_call0 rfl rfl has62 rfl Zhx ?_) | (refine lC 19 63 ?_; refine wl_callS rfl rfl has63 rfl Zif ?_; intro q hq; clear hq q) | apply Wl.nil) | (apply gQ; first | (apply Wq.ev rfl rfl; exact Zci)) | (apply lW; first | apply W.seq | apply W.region | apply W.block | apply W.skip | (refine Zbm ?_) | (refine Zbh ?_) | (refine Zv ?_ ?_ <;> (intro h; try exact Za))))
    all_goals first | exact W.meet (t.t, s2) (.inl ⟨isA_in hq hyq, by rw [ht], h2.symm⟩) Zm Zb | contradiction | exact Zz
   | false =>
    repeat' (first | (apply gL; first | (apply Wl.ev rfl rfl; exact Zci) | (refine lC 17 62 ?_; refine wl_call0 rfl rfl has62 rfl Zhx ?_) | apply Wl.nil) | (apply gQ; first | (apply Wq.ev rfl rfl; exact Zci)) | (apply lW; first | apply W.seq | apply W.region | apply W.block | apply W.blk | apply W.skip | (refine Zbc ?_) | (refine Zv ?_ ?_ <;> (intro h; try exact Za))))
    all_goals first | exact W.again (j + 1) ⟨hlt, take_snoc_all (d := []) hlt hall (by rw [hy]; exact hq)⟩ Zga Zm Zb | contradiction | exact Zz
  ·obtain rfl : j = 4 := by omega
   repeat' (first | (apply gL; first | (apply Wl.ev rfl rfl; exact Zev) | apply Wl.nil) | (apply gQ; first | (apply Wq.ev rfl rfl; exact Zev)) | (apply lW; first | apply W.seq | apply W.region | (refine Zbm ?_) | (refine Zbc ?_)))
   all_goals first | exact W.meet ([], s) (.inr ⟨isA_none hall, rfl, rfl⟩) Zm Zb | contradiction | exact Zz
 ·rintro ⟨tx, s1⟩ hx
  dsimp only at hx ⊢
  rcases hx with ⟨hq, h1, h2⟩ | ⟨hq, h1, h2⟩
  ·dsimp only at h1 h2
   rw [if_pos hq, ← h2, ht] at e
   rw [ht] at h1
   have hne : ¬tx = [] := by rw [h1, ← ht]; exact qua_txt hq
   rw [← h1] at e
   have f1 : s1.1 <:+ L := tk_suf h2.symm hsf
   unfold rtk at e
   obtain ⟨wt, hw⟩ : ∃ x, hdR s1 = x := ⟨_, rfl⟩
   obtain ⟨s3, h3⟩ : ∃ x, tkR (typedT (hdR s1)) s1 = x := ⟨_, rfl⟩
   rw [h3, hw] at e
   have f3 := tk_suf h3 f1
   clear h1
   repeat' (first | (apply gL; first | (apply Wl.ev rfl rfl; exact Zev) | (refine lC 24 64 ?_; refine wl_call0 rfl rfl has64 rfl Zh8 ?_) | (refine lC 25 63 ?_; refine wl_callS rfl rfl has63 rfl Zjm ?_; intro q hq; clear hq q) | (refine lC 60 67 ?_; refine wl_callS rfl rfl has67 rfl Zji ?_; rintro n1 ⟨hok1, hp1⟩) | apply Wl.nil | (refine Zbb ?_) | ((fail_if_success (apply Wl.chk rfl)); refine Wl.split rfl rfl ?_ ?_ <;> (intro h; try exact Za))) | (apply gQ; first | (apply Wq.ev rfl rfl; exact Zev)) | (apply lW; first | apply W.seq | apply W.region | apply W.skip | (refine Zbc ?_) | (refine Zx ?_; intro w hs)))
   all_goals first | exact GivesS.ofC hst1 hs n1 ⟨hok1, hp1⟩ rfl Zn | contradiction | exact Zz
  ·dsimp only at h1 h2
   subst h1 h2
   rw [if_neg (by rw [hq]; simp)] at e
   unfold rtk at e
   obtain ⟨⟨l3, b3⟩, h3⟩ : ∃ x, tkR (typedT (hdR s1)) s1 = x := ⟨_, rfl⟩
   rw [h3, ht] at e
   dsimp only at e
   have f3 : ((l3, b3) : Rs).1 <:+ L := tk_suf h3 hsf
   obtain ⟨u, hu2⟩ : ∃ u, hd2R (l3, b3) = u := ⟨_, rfl⟩
   cases b3 with
   | true =>
    rw [if_neg Zgn] at e
    repeat' (first | (apply gL; first | (apply Wl.ev rfl rfl; exact Zev) | (refine lC 24 64 ?_; refine wl_call0 rfl rfl has64 rfl Zh8 ?_) | (refine lC 25 63 ?_; refine wl_callS rfl rfl has63 rfl Zjl ?_; intro q hq; clear hq q) | (refine lC 60 67 ?_; refine wl_callS rfl rfl has67 rfl Zji ?_; rintro n1 ⟨hok1, hp1⟩) | apply Wl.nil | (refine Zbb ?_)) | (apply gQ; first | (apply Wq.ev rfl rfl; exact Zev)) | (apply lW; first | apply W.seq | apply W.region | apply W.skip | (refine Zbc ?_) | (refine Zx ?_; intro w hs)))
    all_goals first | exact GivesS.ofC hst1 hs n1 ⟨hok1, hp1⟩ rfl Zn | contradiction | exact Zz
   | false =>
   cases hn : namedT (hdR (l3, false)) with
   | false =>
    rw [if_neg (by rw [hn]; simp)] at e
    repeat' (first | (apply gL; first | (apply Wl.ev rfl rfl; exact Zev) | (refine lC 24 64 ?_; refine wl_call0 rfl rfl has64 rfl Zh8 ?_) | (refine lC 25 63 ?_; refine wl_callS rfl rfl has63 rfl Zjl ?_; intro q hq; clear hq q) | (refine lC 38 65 ?_; refine wl_call0 rfl rfl has65 rfl Zh4 ?_) | (refine lC 60 67 ?_; refine wl_callS rfl rfl has67 rfl Zji ?_; rintro n1 ⟨hok1, hp1⟩) | apply Wl.nil | (refine Zbb ?_)) | (apply gQ; first | (apply Wq.ev rfl rfl; exact Zev)) | (apply lW; first | apply W.seq | apply W.region | apply W.skip | (refine Zbc ?_) | (refine Zx ?_; intro w hs)))
    all_goals first | exact GivesS.ofC hst1 hs n1 ⟨hok1, hp1⟩ rfl Zn | contradiction | exact Zz
   | true =>
   by_cases h4 : u.k = 4
   ·by_cases h5 : u.t = [40]
    ·have ha : anyA [[40]] (hd2R (l3, false)) = true := by
      rw [hu2]
      unfold anyA
      rw [decide_eq_true h4, h5]
      rfl
     rw [if_pos (by rw [hn, ha]; rfl)] at e
     have eF : (fun s : Rs => if (!s.2 && (namedT (hdR s) && anyA [[40]] (hd2R s))) = true then rF f (.func t) s else none) (l3, false) = some (ps, s') := by
      dsimp only
      rw [if_pos (by rw [hn, ha]; rfl)]
      exact e
     repeat' (first | (apply gL; first | (apply Wl.ev rfl rfl; exact Zev) | (refine lC 24 64 ?_; refine wl_call0 rfl rfl has64 rfl Zh8 ?_) | (refine lC 25 63 ?_; refine wl_callS rfl rfl has63 rfl Zjl ?_; intro q hq; clear hq q) | (refine lC 38 65 ?_; refine wl_call0 rfl rfl has65 rfl Zh4 ?_) | (refine lC 42 61 ?_; refine wl_call0 rfl rfl has61 rfl Zh3 ?_) | (refine lC 48 61 ?_; refine wl_call0 rfl rfl has61 rfl Zh3 ?_) | (refine lC 55 66 ?_; refine wl_callS rfl rfl has66 rfl (fun w hs => rcall (ihf t) hs Zk eF hT Zc Zf5) ?_; rintro n1 ⟨hok1, hp1⟩) | apply Wl.nil | ((fail_if_success (apply Wl.chk rfl)); refine Wl.split rfl rfl ?_ ?_ <;> (intro h; try exact Za))) | (apply gQ; first | (apply Wq.ev rfl rfl; exact Zev)) | (apply lW; first | apply W.seq | apply W.region | (refine Zv ?_ ?_ <;> (intro h; try exact Za)) | (refine Zx ?_; intro w hs)))
     all_goals first | exact GivesS.ofC hst1 hs n1 ⟨hok1, hp1⟩ rfl Zn | contradiction | exact Zz
    ·have ha : anyA [[40]] (hd2R (l3, false)) = false := by
      rw [hu2]
      unfold anyA
      rw [decide_eq_true h4]
      simpa using h5
     rw [if_neg (by rw [hn, ha]; simp)] at e
     repeat' (first | (apply gL; first | (apply Wl.ev rfl rfl; exact Zev) | (refine lC 24 64 ?_; refine wl_call0 rfl rfl has64 rfl Zh8 ?_) | (refine lC 25 63 ?_; refine wl_callS rfl rfl has63 rfl Zjl ?_; intro q hq; clear hq q) | (refine lC 38 65 ?_; refine wl_call0 rfl rfl has65 rfl Zh4 ?_) | (refine lC 42 61 ?_; refine wl_call0 rfl rfl has61 rfl Zh3 ?_) | (refine lC 48 61 ?_; refine wl_call0 rfl rfl has61 rfl Zh3 ?_) | (refine lC 60 67 ?_; refine wl_callS rfl rfl has67 rfl Zji ?_; rintro n1 ⟨hok1, hp1⟩) | apply Wl.nil | ((fail_if_success (apply Wl.chk rfl)); refine Wl.split rfl rfl ?_ ?_ <;> (intro h; try exact Za))) | (apply gQ; first | (apply Wq.ev rfl rfl; exact Zev)) | (apply lW; first | apply W.seq | apply W.region | apply W.skip | (refine Zv ?_ ?_ <;> (intro h; try exact Za)) | (refine Zx ?_; intro w hs)))
     all_goals first | exact GivesS.ofC hst1 hs n1 ⟨hok1, hp1⟩ rfl Zn | contradiction | exact Zz
   ·have ha : anyA [[40]] (hd2R (l3, false)) = false := by
     rw [hu2]
     unfold anyA
     rw [decide_eq_false h4]
     rfl
    rw [if_neg (by rw [hn, ha]; simp)] at e
    repeat' (first | (apply gL; first | (apply Wl.ev rfl rfl; exact Zev) | (refine lC 24 64 ?_; refine wl_call0 rfl rfl has64 rfl Zh8 ?_) | (refine lC 25 63 ?_; refine wl_callS rfl rfl has63 rfl Zjl ?_; intro q hq; clear hq q) | (refine lC 38 65 ?_; refine wl_call0 rfl rfl has65 rfl Zh4 ?_) | (refine lC 42 61 ?_; refine wl_call0 rfl rfl has61 rfl Zh3 ?_) | (refine lC 48 61 ?_; refine wl_call0 rfl rfl has61 rfl Zh3 ?_) | (refine lC 60 67 ?_; refine wl_callS rfl rfl has67 rfl Zji ?_; rintro n1 ⟨hok1, hp1⟩) | apply Wl.nil | (refine Zbb ?_) | ((fail_if_success (apply Wl.chk rfl)); refine Wl.split rfl rfl ?_ ?_ <;> (intro h; try exact Za))) | (apply gQ; first | (apply Wq.ev rfl rfl; exact Zev)) | (apply lW; first | apply W.seq | apply W.region | apply W.skip | (refine Zbc ?_) | (refine Zx ?_; intro w hs)))
    all_goals first | exact GivesS.ofC hst1 hs n1 ⟨hok1, hp1⟩ rfl Zn | contradiction | exact Zz
theorem rshad_ok {f : Nat} (hfb : f ≤ 1000000000) (iht : RefG (fun s => topR (fun n s => rF f n s) s) 41 []) : RefG (fun s => (rF f (.shad []) s).map fun x => ([.mk 1 [] [] 0 0 x.1], x.2)) 18 [] := by
 intro M w0 w H K TR r lv L s s' ps0 hst hu hT hm hsf e0
 (obtain ⟨A, p1, p2⟩ := hu.front; have hTA : ∀ e ∈ TR, e ∈ A := fun e he => mem_front p1 (hm e he) (hT.2.1 e he); have hst1 := hst.perm p1; have hlim := hT.2.2.1)
 obtain ⟨lp, lc, rfl⟩ := hT.1.len
 obtain ⟨ps, rfl, e⟩ : ∃ ps, ps0 = [.mk 1 [] [] 0 0 ps] ∧ rF f (.shad []) s = some (ps, s') := by
  dsimp only at e0
  cases h : rF f (.shad []) s with
  | none => rw [h] at e0; cases e0
  | some x =>
   rw [h] at e0
   cases e0
   exact ⟨_, rfl, rfl⟩
 clear e0
 (refine calls_of_W (vs := [ptr r]) Tryz.func18 rfl Tryz.ntmps18 (Nat.le_of_ble_eq_true rfl) hst1.fromHere ?_; simp only [argL])
 repeat' (first | (apply gL; first | (apply Wl.ev rfl rfl; exact Zev) | (refine lC 4 40 ?_; refine wl_callS rfl rfl has40 rfl Zbg ?_; intro pn hq; clear hq) | apply Wl.nil) | (apply gQ; first | (apply Wq.ev rfl rfl; exact Zev)) | (apply lW; first | apply W.seq | (refine W.reC (H' := ⟨pn, true, rnO 1 [] [] 0 0 (ownV ([] : List Tn).length none)⟩ :: ⟨r, true, rdS (.slice lp L.length lc) L s⟩ :: ((A ++ rnsH []) ++ ownH 55 none)) Zcf ?_; refine W.loop (X := Nat × List Tn × Ow × Rs) (fun x => [(0, ptr r), (3, ptr pn)]) (fun x => ⟨pn, true, rnO 1 [] [] 0 0 (ownV x.2.1.length x.2.2.1)⟩ :: ⟨r, true, rdS (.slice lp L.length lc) L x.2.2.2⟩ :: ((A ++ rnsH x.2.1) ++ ownH 55 x.2.2.1)) (fun x => x.1 ≤ f ∧ tnsOk x.2.1 ∧ ownOk x.2.1.length 1 (ptrs x.2.1) x.2.2.1 ∧ x.2.1.length + x.1 ≤ f ∧ x.2.2.2.1 <:+ L ∧ rF x.1 (.shad (tnsP x.2.1)) x.2.2.2 = some (ps, s')) (fun x => x.1) (f, [], none, s) ⟨Nat.le_refl _, by rw [tnsOk]; trivial, ⟨rfl, rfl⟩, by simp, hsf, by rw [tnsP]; exact e⟩ Zm (List.Sublist.refl _) ?_) | apply W.region | apply W.block))
 rintro ⟨g0, ts, o1, ⟨l6, b6⟩⟩ ⟨hg, hok, hown, hlen, f6, eI⟩
 dsimp only at hg hok hown hlen f6 eI ⊢
 have f6' : ((l6, b6) : Rs).1 <:+ L := f6
 have hle := f6.length_le
 cases g0 with
 | zero => rw [rF] at eI; cases eI
 | succ g =>
 rw [rF] at eI
 clear e
 by_cases hx : b6 = true ∨ l6 = []
 ·rw [if_pos hx] at eI
  cases eI
  cases b6 with
  | true =>
   clear hx
   repeat' (first | (apply gL; first | (apply Wl.ev rfl rfl; exact Zev) | apply Wl.nil) | (apply gQ; first | (apply Wq.ev rfl rfl; exact Zev) | apply Wq.nil | (refine Zb4 ?_)) | (apply lW; first | apply W.seq | (refine Zgf ?_) | apply W.region | (refine Zbm ?_) | (refine Zbc ?_) | (refine Zx ?_; intro w hs)))
   all_goals first | ((try simp only [row_rn] at hs); exact rnode_own hst1 hs ts o1 _ hok rfl hown Zc8) | contradiction | exact Zz
  | false =>
   obtain rfl : l6 = [] := hx.resolve_left Zgn
   clear hx
   have hge : ¬((L.length - (([], false) : Rs).1.length : Nat) : Int) < (L.length : Int) := by simp only [List.length_nil] at *; omega
   repeat' (first | (apply gL; first | (apply Wl.ev rfl rfl; exact Zev) | apply Wl.nil) | (apply gQ; first | (apply Wq.ev rfl rfl; exact Zev) | apply Wq.nil) | (apply lW; first | apply W.seq | (refine Zgf ?_) | apply W.region | (refine Zbm ?_) | (refine Zv ?_ ?_ <;> (intro h; try exact Za)) | (refine Zx ?_; intro w hs)))
   all_goals first | ((try simp only [row_rn] at hs); exact rnode_own hst1 hs ts o1 _ hok rfl hown Zc8) | contradiction | exact Zz
 ·rw [if_neg hx] at eI
  cases b6 with
  | true => exact absurd (.inl rfl) hx
  | false =>
  cases l6 with
  | nil => exact absurd (.inr rfl) hx
  | cons t0 l7 =>
   clear hx
   have hlt : ((L.length - ((t0 :: l7, false) : Rs).1.length : Nat) : Int) < (L.length : Int) := by simp only [List.length_cons] at *; omega
   obtain ⟨ps5, s5, e5, eN⟩ := bdR_inv eI
   have f5 : s5.1 <:+ L := su_top (fun n s hs => rF_suf g n L s hs) f6' _ _ e5
   have e5f : (fun s : Rs => topR (fun n s => rF f n s) s) (t0 :: l7, false) = some (ps5, s5) := topR_mono (fun n s x h => rF_up (show g ≤ f by omega) h) e5
   clear e5
   repeat' (first | (apply gL; first | (apply Wl.ev rfl rfl; exact Zev) | (refine Zge ?_; try simp only [List.set]) | (refine lC 28 41 ?_; refine wl_callS rfl rfl has41 rfl (fun w hs => rcall iht hs Zk e5f hT Zc Zf5) ?_; rintro n1 ⟨hok1, hp1⟩) | ((show Wl _ _ _ _ _ _ _ (⟨some 29, .buildSlice _ _ _, _, _, _, _⟩ :: _) _ _); apply wl_buildSlice rfl rfl (slT rfl) (szT rfl) (zeroT rfl) rfl Zf7 rfl; exact Zq; intro bq) | ((show Wl _ _ _ _ _ _ _ (⟨some 30, .call ⟨.builtin .append, _, _⟩, _, _, _, _⟩ :: _) _ _); refine Wl.reC (H' := ⟨bq, true, row [ptr n1.b] 55⟩ :: (⟨pn, true, rnO 1 [] [] 0 0 (ownV ts.length o1)⟩ : Ent) :: ⟨r, true, rdS (.slice lp L.length lc) L s5⟩ :: ((A ++ rnsH (ts ++ [n1])) ++ ownH 55 o1)) Zbs ?_; refine wl_append_own (m := ts.length) (k := 1) (o := o1) (xs := ptrs ts) (news := [ptr n1.b]) rfl rfl (slT rfl) (szT rfl) (byT rfl) (zeroT rfl) rfl rfl rfl hown Zd rfl (fun j v h => by simpa using h) Zbn Zga Zbj Zga Zt ?_; intro o2 hown2)) | (apply gQ; first | (apply Wq.ev rfl rfl; exact Zev) | apply Wq.nil) | (apply lW; first | apply W.seq | ((show W _ _ _ _ _ _ (.inl (.region 3 _ true) :: _) _ _); refine W.regionM [11] [] [(⟨pn, true, rnO 1 [] [] 0 0 (ownV ts.length o1)⟩ : Ent)] mixed ?_) | (refine Zgf ?_) | apply W.block | apply W.blk | apply W.skip | (refine Zv ?_ ?_ <;> (intro h; try exact Za))) | ((show Wm _ _ _ _ _ _ _ _ _ _ _ _ _ _ _ _); first | ((refine Zgg ?_)) | (refine Zgj ?_) | (refine Zgm ?_) | (refine Zhz ?_) | (refine Zh0 ?_) | (refine Zhy ?_) | ((fail_if_success (refine Zba ?_)); (refine Zgd ?_ ?_ <;> (intro h; try exact Za))) | ((fail_if_success (refine Zba ?_)); (refine Zgc ?_ ?_ <;> (intro h; try exact Za))) | apply Wm.next) | apply AllO.nil | apply AllO.cons | (refine Or.inl Zj) | ((show _ ∨ Wl _ _ _ _ _ _ _ _ _ _); apply Or.inr) | (refine Zgl ?_))
   all_goals first | (refine W.reC (H' := (⟨pn, true, rnO 1 [] [] 0 0 (ownV (ts ++ [n1]).length o2)⟩ : Ent) :: ⟨r, true, rdS (.slice lp L.length lc) L s5⟩ :: ((A ++ rnsH (ts ++ [n1])) ++ ownH 55 o2)) Zb5 ?_; exact W.again (g, ts ++ [n1], o2, s5) ⟨Zd3, tnsOk_app hok (tnsOk1 hok1), own_snoc hown2, by dsimp only; rw [len_snocR ts n1]; omega, f5, by rw [tnsP_app, tnsP1, hp1]; exact eN⟩ Zc1 Zm (List.Sublist.refl _)) | contradiction | exact Zz
end Go.Proofs.YtbinaeemcidicaaGreat
