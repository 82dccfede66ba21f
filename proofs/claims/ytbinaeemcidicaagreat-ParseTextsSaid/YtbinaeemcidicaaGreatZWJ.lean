/- Walks: the document's reader: what stands alone: parentheses, calls. No condition. -/
import Derived.Test.YtbinaeemcidicaaGreatZWH
set_option maxRecDepth 100000
set_option maxHeartbeats 16000000
namespace Go.Proofs.YtbinaeemcidicaaGreat
open Go.PB Go.RowKit
attribute [local irreducible] Go.Calls
theorem rfirst_par {f : Nat} (ihe : RefC f .expr 99 []) {M : List Nat} {w0 w : World} {H : List Ent} {K : List Ent → List Ent} {TR : List Ent} {r : Nat} {lv : Value} {L : List Ti} {t0 : Ti} {l1 : List Ti} {s' : Rs} {ps : List Pt}
  (hst : St M w0 w H) (hu : UpdT H r (rdS lv L (t0 :: l1, false)) (rdS lv L s') K) (hT : TokE TR r lv L) (hm : ∀ p ∈ TR, p ∈ H) (hsf : t0 :: l1 <:+ L) (hk2 : ¬(hdR (t0 :: l1, false)).k = 2) (hk3 : ¬(hdR (t0 :: l1, false)).k = 3) (hb1 : isA [[116, 114, 117, 101]] (hdR (t0 :: l1, false)) = false) (hb2 : isA [[102, 97, 108, 115, 101]] (hdR (t0 :: l1, false)) = false) (hp : isA [[40]] (hdR (t0 :: l1, false)) = true)
  (e : rF (f + 1) .fst (t0 :: l1, false) = some (ps, s')) : Calls Tryz.prog 130 #[ptr r] w (GivesS (fun t : Tn => ptr t.b) (fun t => tnOk t ∧ tnP t = hdP ps) M w0 (fun t => K (rnH t))) := by
 (obtain ⟨A, p1, p2⟩ := hu.front; have hTA : ∀ e ∈ TR, e ∈ A := fun e he => mem_front p1 (hm e he) (hT.2.1 e he); have hst1 := hst.perm p1; have hlim := hT.2.2.1)
 obtain ⟨lp, lc, rfl⟩ := hT.1.len
 rw [rF] at e
 have hle := hsf.length_le
 have hlt : ¬(L.length : Int) ≤ ((L.length - ((t0 :: l1, false) : Rs).1.length : Nat) : Int) := by simp only [List.length_cons] at *; omega
 have hne : ((t0 :: l1, false) : Rs).1 ≠ [] := by simp
 rw [if_neg (show ¬(((t0 :: l1, false) : Rs).2 = true ∨ ((t0 :: l1, false) : Rs).1 = []) by simp), if_neg hk2, if_neg hk3, if_neg (by rw [hb1, hb2]; simp), if_pos hp] at e
 obtain ⟨t, ht⟩ : ∃ t, hdR (t0 :: l1, false) = t := ⟨_, rfl⟩
 obtain ⟨u, hu2⟩ : ∃ u, hd2R (t0 :: l1, false) = u := ⟨_, rfl⟩
 rw [ht] at hk2 hk3
 obtain ⟨s2, h2⟩ : ∃ s2, tkR true (t0 :: l1, false) = s2 := ⟨_, rfl⟩
 rw [h2] at e
 have f2 : s2.1 <:+ L := tk_suf h2 hsf
 obtain ⟨ps3, s3, e3, e⟩ := bdR_inv e
 have f3 := r_suf e3 f2
 unfold rtk at e
 obtain ⟨s4, h4⟩ : ∃ s4, tkR (isA [[41]] (hdR s3)) s3 = s4 := ⟨_, rfl⟩
 rw [h4] at e
 cases e
 have hsf' : ((t0 :: l1, false) : Rs).1 <:+ L := hsf
 (refine Zb3 ?_; simp only [argL])
 repeat' (first | (apply gL; first | (apply Wl.ev rfl rfl; exact Zev) | (refine Zey ?_; refine wl_alloc rfl rfl (zeroT rfl) ?_; intro b3) | (refine Zf6 ?_) | (refine lC 8 61 ?_; refine wl_call0 rfl rfl has61 rfl Zh7 ?_) | (refine lC 10 61 ?_; refine wl_call0 rfl rfl has61 rfl Zh3 ?_) | (refine lC 15 61 ?_; refine wl_call0 rfl rfl has61 rfl Zh3 ?_) | (refine lC 21 40 ?_; refine wl_callS rfl rfl has40 rfl Zbg ?_; intro bn hq; clear hq) | (refine Zf4 ?_; refine wl_call0 rfl rfl has62 rfl Zhx ?_) | (refine Zfb ?_; refine wl_call0 rfl rfl has62 rfl Zhx ?_) | (refine lC 90 62 ?_; refine wl_call0 rfl rfl has62 rfl Zhx ?_) | (refine lC 92 63 ?_; refine wl_callS rfl rfl has63 rfl Zia ?_; intro q hq; clear hq q) | (refine lC 117 63 ?_; refine wl_callS rfl rfl has63 rfl Zia ?_; intro q hq; clear hq q) | (refine lC 96 97 ?_; refine wl_callS rfl rfl has97 rfl Zlf ?_; intro q hq; clear hq q) | (refine lC 119 97 ?_; refine wl_callS rfl rfl has97 rfl Zjh ?_; intro q hq; clear hq q) | (refine lC 94 99 ?_; refine wl_callS rfl rfl has99 rfl Zmm ?_; rintro t1 ⟨hok1, hp1⟩) | apply Wl.nil | (refine Zbb ?_) | ((fail_if_success (apply Wl.chk rfl)); refine Wl.split rfl rfl ?_ ?_ <;> (intro h; try exact Za))) | (apply gQ; first | (apply Wq.ev rfl rfl; exact Zev) | apply Wq.nil) | (apply lW; first | apply W.seq | (refine Zgf ?_) | apply W.region | apply W.block | (refine Zbh ?_) | (refine Zbc ?_) | (refine Zv ?_ ?_ <;> (intro h; try exact Za)) | (refine Zx ?_; intro w hs)) | ((show Wm _ _ _ _ _ _ _ _ _ _ _ _ _ _ _ _); first | ((refine Zgg ?_)) | (refine Zgj ?_) | (refine Zgm ?_) | (refine Zhz ?_) | (refine Zh0 ?_) | (refine Zhy ?_) | ((fail_if_success (refine Zba ?_)); (refine Zgd ?_ ?_ <;> (intro h; try exact Za))) | ((fail_if_success (refine Zba ?_)); (refine Zgc ?_ ?_ <;> (intro h; try exact Za))) | apply Wm.next) | apply AllO.nil | apply AllO.cons | (refine Or.inl Zj) | ((show _ ∨ Wl _ _ _ _ _ _ _ _ _ _); apply Or.inr) | (refine Zgl ?_))
 all_goals first | exact GivesS.ofC hst1 hs t1 ⟨hok1, hp1⟩ rfl Zn | contradiction | exact Zz
theorem later {T G : Prop} (main : (True → T) → G) (side : T) : G := main fun _ => side
def argI (fst : Bool) (g : Nat) (acc : List Pt) (s : Rs) (x : List Pt × Rs) : Prop :=
 if fst = true then acc = [] ∧ (if (s.2 || isA [[41]] (hdR s)) = true then rtk (isA [[41]]) s fun _ s => okR [] s else rF g (.args []) s) = some x
 else (s.2 = true ∨ isA [[41]] (hdR s) = false) ∧ rcm s (fun s => okR acc s) (fun s => rF g (.args acc) s) = some x
theorem rcm_end {s : Rs} {d m : Rs → Ro} {x} (hc : (s.2 || isA [[41]] (hdR s)) = true) (h : rcm s d m = some x) : d (tkR (isA [[41]] (hdR s)) s) = some x := by
 unfold rcm at h
 rw [if_pos hc] at h
 exact h
theorem rcm_more {s : Rs} {d m : Rs → Ro} {x} (h2 : s.2 = false) (hc : isA [[41]] (hdR s) = false) (h : rcm s d m = some x) : m (tkR (isA [[44]] (hdR s)) s) = some x := by
 unfold rcm at h
 rw [if_neg (by rw [h2, hc]; simp)] at h
 exact h
theorem argI_inv {fst : Bool} {g : Nat} {acc : List Pt} {l : List Ti} {b : Bool} {x : List Pt × Rs} (h : argI fst g acc (l, b) x) :
  (((b = true) ∨ (fst = true ∧ b = false ∧ isA [[41]] (hdR (l, b)) = true)) ∧ okR acc (tkR (isA [[41]] (hdR (l, b))) (l, b)) = some x) ∨ (fst = true ∧ b = false ∧ isA [[41]] (hdR (l, b)) = false ∧ acc = [] ∧ rF g (.args []) (l, b) = some x) ∨ (fst = false ∧ b = false ∧ rF g (.args acc) (tkR (isA [[44]] (hdR (l, b))) (l, b)) = some x) := by
 unfold argI at h
 cases fst with
 | true =>
  rw [if_pos rfl] at h
  obtain ⟨rfl, h⟩ := h
  cases b with
  | true => exact .inl ⟨.inl rfl, h⟩
  | false =>
   cases hc : isA [[41]] (hdR (l, false)) with
   | true =>
    rw [if_pos (by rw [hc]; rfl)] at h
    unfold rtk at h
    rw [hc] at h
    exact .inl ⟨.inr ⟨rfl, rfl, rfl⟩, h⟩
   | false =>
    rw [if_neg (by rw [hc]; simp)] at h
    exact .inr (.inl ⟨rfl, rfl, rfl, rfl, h⟩)
 | false =>
  rw [if_neg Zgn] at h
  obtain ⟨h1, h⟩ := h
  cases b with
  | true => exact .inl ⟨.inl rfl, rcm_end rfl h⟩
  | false => exact .inr (.inr ⟨rfl, rfl, rcm_more rfl (h1.resolve_left Zgn) h⟩)
theorem argI_next {g : Nat} {acc : List Pt} {l : List Ti} {b : Bool} {x : List Pt × Rs} (h : rcm (l, b) (fun s => okR acc s) (fun s => rF g (.args acc) s) = some x) : (b = false ∧ isA [[41]] (hdR (l, b)) = true ∧ okR acc (tkR (isA [[41]] (hdR (l, b))) (l, b)) = some x) ∨ ((b = true ∨ (b = false ∧ isA [[41]] (hdR (l, b)) = false)) ∧ argI false g acc (l, b) x) := by
 cases b with
 | true => exact .inr ⟨.inl rfl, by unfold argI; rw [if_neg Zgn]; exact ⟨.inl rfl, h⟩⟩
 | false =>
  cases hc : isA [[41]] (hdR (l, false)) with
  | true => exact .inl ⟨rfl, rfl, by have := rcm_end (by rw [hc]; rfl) h; rwa [hc] at this⟩
  | false => exact .inr ⟨.inr ⟨rfl, rfl⟩, by unfold argI; rw [if_neg Zgn]; exact ⟨.inr hc, h⟩⟩
theorem rfirst_call {f : Nat} (hfb : f ≤ 1000000000) (ihe : RefC f .expr 99 []) {M : List Nat} {w0 w : World} {H : List Ent} {K : List Ent → List Ent} {TR : List Ent} {r : Nat} {lv : Value} {L : List Ti} {t0 : Ti} {l1 : List Ti} {s' : Rs} {ps : List Pt}
  (hst : St M w0 w H) (hu : UpdT H r (rdS lv L (t0 :: l1, false)) (rdS lv L s') K) (hT : TokE TR r lv L) (hm : ∀ p ∈ TR, p ∈ H) (hsf : t0 :: l1 <:+ L) (hk2 : ¬(hdR (t0 :: l1, false)).k = 2) (hk3 : ¬(hdR (t0 :: l1, false)).k = 3) (hb1 : isA [[116, 114, 117, 101]] (hdR (t0 :: l1, false)) = false) (hb2 : isA [[102, 97, 108, 115, 101]] (hdR (t0 :: l1, false)) = false) (hp : isA [[40]] (hdR (t0 :: l1, false)) = false) (hcl : (typedT (hdR (t0 :: l1, false)) || (namedT (hdR (t0 :: l1, false)) && anyA [[40]] (hd2R (t0 :: l1, false)))) = true)
  (e : rF (f + 1) .fst (t0 :: l1, false) = some (ps, s')) : Calls Tryz.prog 130 #[ptr r] w (GivesS (fun t : Tn => ptr t.b) (fun t => tnOk t ∧ tnP t = hdP ps) M w0 (fun t => K (rnH t))) := by
 (obtain ⟨A, p1, p2⟩ := hu.front; have hTA : ∀ e ∈ TR, e ∈ A := fun e he => mem_front p1 (hm e he) (hT.2.1 e he); have hst1 := hst.perm p1; have hlim := hT.2.2.1)
 obtain ⟨lp, lc, rfl⟩ := hT.1.len
 rw [rF] at e
 have hle := hsf.length_le
 have hlt : ¬(L.length : Int) ≤ ((L.length - ((t0 :: l1, false) : Rs).1.length : Nat) : Int) := by simp only [List.length_cons] at *; omega
 have hne : ((t0 :: l1, false) : Rs).1 ≠ [] := by simp
 rw [if_neg (show ¬(((t0 :: l1, false) : Rs).2 = true ∨ ((t0 :: l1, false) : Rs).1 = []) by simp), if_neg hk2, if_neg hk3, if_neg (by rw [hb1, hb2]; simp), if_neg (by rw [hp]; simp), if_pos hcl] at e
 obtain ⟨t, ht⟩ : ∃ t, hdR (t0 :: l1, false) = t := ⟨_, rfl⟩
 obtain ⟨u, hu2⟩ : ∃ u, hd2R (t0 :: l1, false) = u := ⟨_, rfl⟩
 rw [ht] at hk2 hk3
 unfold rtk at e
 obtain ⟨s2, h2⟩ : ∃ s2, tkR true (t0 :: l1, false) = s2 := ⟨_, rfl⟩
 rw [h2] at e
 have f2 : s2.1 <:+ L := tk_suf h2 hsf
 obtain ⟨s3, h3⟩ : ∃ s3, tkR (isA [[40]] (hdR s2)) s2 = s3 := ⟨_, rfl⟩
 rw [h3, ht] at e
 have f3 : s3.1 <:+ L := tk_suf h3 f2
 obtain ⟨ps4, s4, e4, e⟩ := bdR_inv e
 cases e
 have eA : argI true f [] s3 (ps4, s') := by
  unfold argI
  rw [if_pos rfl]
  refine ⟨rfl, ?_⟩
  cases f with
  | zero => rw [rF] at e4; cases e4
  | succ f =>
   rw [rF] at e4
   exact iteR_mono (fun _ h => h) (fun _ h => rF_succ _ _ _ _ h) e4
 have hsf' : ((t0 :: l1, false) : Rs).1 <:+ L := hsf
 (refine Zb3 ?_; simp only [argL])
 apply later
 ·intro hb
  cases hty : typedT (hdR (t0 :: l1, false)) with
  | true =>
   by_cases h4 : u.k = 4
   ·repeat' (first | (apply gL; first | (apply Wl.ev rfl rfl; exact Zev) | (refine Zey ?_; refine wl_alloc rfl rfl (zeroT rfl) ?_; intro b3) | (refine Zf6 ?_) | (refine lC 8 61 ?_; refine wl_call0 rfl rfl has61 rfl Zh7 ?_) | (refine lC 10 61 ?_; refine wl_call0 rfl rfl has61 rfl Zh3 ?_) | (refine lC 15 61 ?_; refine wl_call0 rfl rfl has61 rfl Zh3 ?_) | (refine lC 21 40 ?_; refine wl_callS rfl rfl has40 rfl Zbg ?_; intro bn hq; clear hq) | (refine Zf4 ?_; refine wl_call0 rfl rfl has62 rfl Zhx ?_) | (refine Zfb ?_; refine wl_call0 rfl rfl has62 rfl Zhx ?_) | (refine lC 90 62 ?_; refine wl_call0 rfl rfl has62 rfl Zhx ?_) | (refine lC 100 64 ?_; refine wl_call0 rfl rfl has64 rfl Zh8 ?_) | (refine lC 92 63 ?_; refine wl_callS rfl rfl has63 rfl Zia ?_; intro q hq; clear hq q) | (refine lC 117 63 ?_; refine wl_callS rfl rfl has63 rfl Zia ?_; intro q hq; clear hq q) | (refine lC 96 97 ?_; refine wl_callS rfl rfl has97 rfl Zlf ?_; intro q hq; clear hq q) | (refine lC 119 97 ?_; refine wl_callS rfl rfl has97 rfl Zjh ?_; intro q hq; clear hq q) | apply Wl.nil | (refine Zf9 ?_; try simp only [List.set]) | ((fail_if_success (apply Wl.chk rfl)); refine Wl.split rfl rfl ?_ ?_ <;> (intro h; try exact Za))) | (apply gQ; first | (apply Wq.ev rfl rfl; exact Zev) | apply Wq.nil) | (apply lW; first | apply W.seq | ((show W _ _ _ _ _ _ (.inl (.region 23 _ true) :: _) _ _); refine W.regionM [7, 11] [] [(⟨bn, true, rnO 0 [] [] 0 t.a (.slice none 0 0)⟩ : Ent), (⟨b3, true, row (tiC t) 42⟩ : Ent)] mixed ?_) | (refine Zg1 ?_; exact W.loop (X := Nat × Nat × Bool × List Tn × Ow × Rs) (fun x => [(0, ptr r), (5, ptr x.1), (6, .bool x.2.2.1)]) (fun x => ⟨x.1, true, rnO 17 [] t.t 0 t.a (ownV x.2.2.2.1.length x.2.2.2.2.1)⟩ :: ⟨r, true, rdS (.slice lp L.length lc) L x.2.2.2.2.2⟩ :: ((A ++ rnsH x.2.2.2.1) ++ ownH 55 x.2.2.2.2.1)) (fun x => x.2.1 ≤ f ∧ tnsOk x.2.2.2.1 ∧ ownOk x.2.2.2.1.length 1 (ptrs x.2.2.2.1) x.2.2.2.2.1 ∧ x.2.2.2.1.length + x.2.1 ≤ f ∧ x.2.2.2.2.2.1 <:+ L ∧ argI x.2.2.1 x.2.1 (tnsP x.2.2.2.1) x.2.2.2.2.2 (ps4, s')) (fun x => x.2.1) (bn, f, true, [], none, s3) ⟨Nat.le_refl _, by rw [tnsOk]; trivial, ⟨rfl, rfl⟩, by simp, f3, eA⟩ Zm (List.Sublist.refl _) (hb trivial)) | (refine Zgf ?_) | apply W.region | apply W.block | apply W.skip | (refine Zbh ?_) | (refine Zbc ?_) | (refine Zv ?_ ?_ <;> (intro h; try exact Za))) | ((show Wm _ _ _ _ _ _ _ _ _ _ _ _ _ _ _ _); first | ((refine Zgg ?_)) | (refine Zgj ?_) | (refine Zgm ?_) | (refine Zhz ?_) | (refine Zh0 ?_) | (refine Zhy ?_) | ((fail_if_success (refine Zba ?_)); (refine Zgd ?_ ?_ <;> (intro h; try exact Za))) | ((fail_if_success (refine Zba ?_)); (refine Zgc ?_ ?_ <;> (intro h; try exact Za))) | apply Wm.next) | apply AllO.nil | apply AllO.cons | (refine Or.inl Zj) | ((show _ ∨ Wl _ _ _ _ _ _ _ _ _ _); apply Or.inr) | (refine Zgl ?_))
    all_goals first | contradiction | exact Zz
   ·repeat' (first | (apply gL; first | (apply Wl.ev rfl rfl; exact Zev) | (refine Zey ?_; refine wl_alloc rfl rfl (zeroT rfl) ?_; intro b3) | (refine Zf6 ?_) | (refine lC 8 61 ?_; refine wl_call0 rfl rfl has61 rfl Zh7 ?_) | (refine lC 10 61 ?_; refine wl_call0 rfl rfl has61 rfl Zh3 ?_) | (refine lC 15 61 ?_; refine wl_call0 rfl rfl has61 rfl Zh3 ?_) | (refine lC 21 40 ?_; refine wl_callS rfl rfl has40 rfl Zbg ?_; intro bn hq; clear hq) | (refine Zf4 ?_; refine wl_call0 rfl rfl has62 rfl Zhx ?_) | (refine Zfb ?_; refine wl_call0 rfl rfl has62 rfl Zhx ?_) | (refine lC 90 62 ?_; refine wl_call0 rfl rfl has62 rfl Zhx ?_) | (refine lC 100 64 ?_; refine wl_call0 rfl rfl has64 rfl Zh8 ?_) | (refine lC 92 63 ?_; refine wl_callS rfl rfl has63 rfl Zia ?_; intro q hq; clear hq q) | (refine lC 117 63 ?_; refine wl_callS rfl rfl has63 rfl Zia ?_; intro q hq; clear hq q) | (refine lC 96 97 ?_; refine wl_callS rfl rfl has97 rfl Zlf ?_; intro q hq; clear hq q) | (refine lC 119 97 ?_; refine wl_callS rfl rfl has97 rfl Zjh ?_; intro q hq; clear hq q) | apply Wl.nil | (refine Zbb ?_) | (refine Zf9 ?_; try simp only [List.set]) | ((fail_if_success (apply Wl.chk rfl)); refine Wl.split rfl rfl ?_ ?_ <;> (intro h; try exact Za))) | (apply gQ; first | (apply Wq.ev rfl rfl; exact Zev) | apply Wq.nil) | (apply lW; first | apply W.seq | ((show W _ _ _ _ _ _ (.inl (.region 23 _ true) :: _) _ _); refine W.regionM [7, 11] [] [(⟨bn, true, rnO 0 [] [] 0 t.a (.slice none 0 0)⟩ : Ent), (⟨b3, true, row (tiC t) 42⟩ : Ent)] mixed ?_) | (refine Zg1 ?_; exact W.loop (X := Nat × Nat × Bool × List Tn × Ow × Rs) (fun x => [(0, ptr r), (5, ptr x.1), (6, .bool x.2.2.1)]) (fun x => ⟨x.1, true, rnO 17 [] t.t 0 t.a (ownV x.2.2.2.1.length x.2.2.2.2.1)⟩ :: ⟨r, true, rdS (.slice lp L.length lc) L x.2.2.2.2.2⟩ :: ((A ++ rnsH x.2.2.2.1) ++ ownH 55 x.2.2.2.2.1)) (fun x => x.2.1 ≤ f ∧ tnsOk x.2.2.2.1 ∧ ownOk x.2.2.2.1.length 1 (ptrs x.2.2.2.1) x.2.2.2.2.1 ∧ x.2.2.2.1.length + x.2.1 ≤ f ∧ x.2.2.2.2.2.1 <:+ L ∧ argI x.2.2.1 x.2.1 (tnsP x.2.2.2.1) x.2.2.2.2.2 (ps4, s')) (fun x => x.2.1) (bn, f, true, [], none, s3) ⟨Nat.le_refl _, by rw [tnsOk]; trivial, ⟨rfl, rfl⟩, by simp, f3, eA⟩ Zm (List.Sublist.refl _) (hb trivial)) | (refine Zgf ?_) | apply W.region | apply W.block | apply W.skip | (refine Zbh ?_) | (refine Zbc ?_) | (refine Zv ?_ ?_ <;> (intro h; try exact Za))) | ((show Wm _ _ _ _ _ _ _ _ _ _ _ _ _ _ _ _); first | ((refine Zgg ?_)) | (refine Zgj ?_) | (refine Zgm ?_) | (refine Zhz ?_) | (refine Zh0 ?_) | (refine Zhy ?_) | ((fail_if_success (refine Zba ?_)); (refine Zgd ?_ ?_ <;> (intro h; try exact Za))) | ((fail_if_success (refine Zba ?_)); (refine Zgc ?_ ?_ <;> (intro h; try exact Za))) | apply Wm.next) | apply AllO.nil | apply AllO.cons | (refine Or.inl Zj) | ((show _ ∨ Wl _ _ _ _ _ _ _ _ _ _); apply Or.inr) | (refine Zgl ?_))
    all_goals first | contradiction | exact Zz
  | false =>
   rw [hty, Bool.false_or, Bool.and_eq_true, hu2] at hcl
   obtain ⟨hn, hcl⟩ := hcl
   unfold anyA at hcl
   rw [Bool.and_eq_true] at hcl
   have h4 : u.k = 4 := of_decide_eq_true hcl.1
   have h5 : u.t = [40] := by simpa using hcl.2
   clear hcl
   repeat' (first | (apply gL; first | (apply Wl.ev rfl rfl; exact Zev) | (refine Zey ?_; refine wl_alloc rfl rfl (zeroT rfl) ?_; intro b3) | (refine Zf6 ?_) | (refine lC 8 61 ?_; refine wl_call0 rfl rfl has61 rfl Zh7 ?_) | (refine lC 10 61 ?_; refine wl_call0 rfl rfl has61 rfl Zh3 ?_) | (refine lC 15 61 ?_; refine wl_call0 rfl rfl has61 rfl Zh3 ?_) | (refine lC 21 40 ?_; refine wl_callS rfl rfl has40 rfl Zbg ?_; intro bn hq; clear hq) | (refine Zf4 ?_; refine wl_call0 rfl rfl has62 rfl Zhx ?_) | (refine Zfb ?_; refine wl_call0 rfl rfl has62 rfl Zhx ?_) | (refine lC 90 62 ?_; refine wl_call0 rfl rfl has62 rfl Zhx ?_) | (refine lC 100 64 ?_; refine wl_call0 rfl rfl has64 rfl Zh8 ?_) | (refine lC 102 65 ?_; refine wl_call0 rfl rfl has65 rfl Zh4 ?_) | (refine lC 92 63 ?_; refine wl_callS rfl rfl has63 rfl Zia ?_; intro q hq; clear hq q) | (refine lC 117 63 ?_; refine wl_callS rfl rfl has63 rfl Zia ?_; intro q hq; clear hq q) | (refine lC 96 97 ?_; refine wl_callS rfl rfl has97 rfl Zlf ?_; intro q hq; clear hq q) | (refine lC 119 97 ?_; refine wl_callS rfl rfl has97 rfl Zjh ?_; intro q hq; clear hq q) | apply Wl.nil | (refine Zf9 ?_; try simp only [List.set]) | ((fail_if_success (apply Wl.chk rfl)); refine Wl.split rfl rfl ?_ ?_ <;> (intro h; try exact Za))) | (apply gQ; first | (apply Wq.ev rfl rfl; exact Zev) | apply Wq.nil) | (apply lW; first | apply W.seq | ((show W _ _ _ _ _ _ (.inl (.region 23 _ true) :: _) _ _); refine W.regionM [7, 11] [] [(⟨bn, true, rnO 0 [] [] 0 t.a (.slice none 0 0)⟩ : Ent), (⟨b3, true, row (tiC t) 42⟩ : Ent)] mixed ?_) | (refine Zg1 ?_; exact W.loop (X := Nat × Nat × Bool × List Tn × Ow × Rs) (fun x => [(0, ptr r), (5, ptr x.1), (6, .bool x.2.2.1)]) (fun x => ⟨x.1, true, rnO 17 [] t.t 0 t.a (ownV x.2.2.2.1.length x.2.2.2.2.1)⟩ :: ⟨r, true, rdS (.slice lp L.length lc) L x.2.2.2.2.2⟩ :: ((A ++ rnsH x.2.2.2.1) ++ ownH 55 x.2.2.2.2.1)) (fun x => x.2.1 ≤ f ∧ tnsOk x.2.2.2.1 ∧ ownOk x.2.2.2.1.length 1 (ptrs x.2.2.2.1) x.2.2.2.2.1 ∧ x.2.2.2.1.length + x.2.1 ≤ f ∧ x.2.2.2.2.2.1 <:+ L ∧ argI x.2.2.1 x.2.1 (tnsP x.2.2.2.1) x.2.2.2.2.2 (ps4, s')) (fun x => x.2.1) (bn, f, true, [], none, s3) ⟨Nat.le_refl _, by rw [tnsOk]; trivial, ⟨rfl, rfl⟩, by simp, f3, eA⟩ Zm (List.Sublist.refl _) (hb trivial)) | (refine Zgf ?_) | apply W.region | apply W.block | (refine Zbc ?_) | (refine Zv ?_ ?_ <;> (intro h; try exact Za))) | ((show Wm _ _ _ _ _ _ _ _ _ _ _ _ _ _ _ _); first | ((refine Zgg ?_)) | (refine Zgj ?_) | (refine Zgm ?_) | (refine Zhz ?_) | (refine Zh0 ?_) | (refine Zhy ?_) | ((fail_if_success (refine Zba ?_)); (refine Zgd ?_ ?_ <;> (intro h; try exact Za))) | ((fail_if_success (refine Zba ?_)); (refine Zgc ?_ ?_ <;> (intro h; try exact Za))) | apply Wm.next) | apply AllO.nil | apply AllO.cons | (refine Or.inl Zj) | ((show _ ∨ Wl _ _ _ _ _ _ _ _ _ _); apply Or.inr) | (refine Zgl ?_))
   all_goals first | contradiction | exact Zz
 rintro ⟨bn, g0, fs, ts, o1, ⟨l6, b6⟩⟩ ⟨hg, hok, hown, hlen, f6, eI⟩
 dsimp only at hg hok hown hlen f6 eI ⊢
 have f6' : ((l6, b6) : Rs).1 <:+ L := f6
 rcases argI_inv eI with ⟨hex, eR⟩ | ⟨rfl, rfl, hq, hacc, eR⟩ | ⟨rfl, rfl, eR⟩
 ·obtain ⟨s7, h7⟩ : ∃ s7, tkR (isA [[41]] (hdR (l6, b6))) (l6, b6) = s7 := ⟨_, rfl⟩
  rw [h7] at eR
  clear eA eI e4
  cases eR
  rcases hex with rfl | ⟨rfl, rfl, hq⟩
  ·repeat' (first | (apply gL; first | (apply Wl.ev rfl rfl; exact Zev) | (refine lC 159 97 ?_; refine wl_callS rfl rfl has97 rfl Zjp ?_; intro q hq; clear hq q) | apply Wl.nil | (refine Zbb ?_)) | (apply gQ; first | (apply Wq.ev rfl rfl; exact Zev)) | (apply lW; first | apply W.seq | apply W.region | (refine Zbm ?_) | (refine Zbc ?_) | (refine Zx ?_; intro w hs)))
   all_goals first | ((try simp only [row_rn] at hs); exact rnode_own hst1 hs ts o1 _ hok rfl hown Zn) | contradiction | exact Zz
  ·repeat' (first | (apply gL; first | (apply Wl.ev rfl rfl; exact Zev) | (refine Zhm ?_; refine wl_call0 rfl rfl has62 rfl Zhx ?_) | (refine Zhn ?_; refine wl_call0 rfl rfl has62 rfl Zhx ?_) | (refine lC 130 62 ?_; refine wl_call0 rfl rfl has62 rfl Zhx ?_) | (refine lC 156 62 ?_; refine wl_call0 rfl rfl has62 rfl Zhx ?_) | (refine lC 159 97 ?_; refine wl_callS rfl rfl has97 rfl Zjp ?_; intro q hq; clear hq q) | apply Wl.nil) | (apply gQ; first | (apply Wq.ev rfl rfl; exact Zev)) | (apply lW; first | apply W.seq | apply W.region | (refine Zbm ?_) | (refine Zbc ?_) | (refine Zx ?_; intro w hs)))
   all_goals first | ((try simp only [row_rn] at hs); exact rnode_own hst1 hs ts o1 _ hok rfl hown Zn) | contradiction | exact Zz
 ·rw [← hacc] at eR
  cases g0 with
  | zero => rw [rF] at eR; cases eR
  | succ g =>
   rw [rF] at eR
   obtain ⟨ps5, ⟨l5, b5⟩, e5, eR⟩ := bdR_inv eR
   have f5 : l5 <:+ L := r_suf e5 f6'
   have f5' : ((l5, b5) : Rs).1 <:+ L := f5
   have e5 := rF_up (show g ≤ f by omega) e5
   clear eA eI e4
   rcases argI_next eR with ⟨hbF, hq5, eN⟩ | ⟨hb5, eN⟩
   ·obtain ⟨s7, h7⟩ : ∃ s7, tkR (isA [[41]] (hdR (l5, b5))) (l5, b5) = s7 := ⟨_, rfl⟩
    rw [h7] at eN
    cases eN
    subst hbF
    repeat' (first | (apply gL; first | (apply Wl.ev rfl rfl; exact Zev) | (refine Zge ?_; try simp only [List.set]) | (refine lC 144 99 ?_; refine wl_callS rfl rfl has99 rfl Zjt ?_; rintro n1 ⟨hok1, hp1⟩) | ((show Wl _ _ _ _ _ _ _ (⟨some 146, .call ⟨.builtin .append, _, _⟩, _, _, _, _⟩ :: _) _ _); refine Wl.reC (H' := ⟨b, true, row [ptr n1.b] 55⟩ :: (⟨bn, true, rnO 17 [] t.t 0 t.a (ownV ts.length o1)⟩ : Ent) :: ⟨r, true, rdS (.slice lp L.length lc) L (l5, false)⟩ :: ((A ++ rnsH (ts ++ [n1])) ++ ownH 55 o1)) Zbp ?_; refine wl_append_own (m := ts.length) (k := 1) (o := o1) (xs := ptrs ts) (news := [ptr n1.b]) rfl rfl (slT rfl) (szT rfl) (byT rfl) (zeroT rfl) rfl rfl rfl hown Zd rfl (fun j v h => by simpa using h) Zbn Zga Zbj Zga Zt ?_; intro o2 hown2) | (refine Zhm ?_; refine wl_call0 rfl rfl has62 rfl Zhx ?_) | (refine Zhn ?_; refine wl_call0 rfl rfl has62 rfl Zhx ?_) | (refine lC 130 62 ?_; refine wl_call0 rfl rfl has62 rfl Zhx ?_) | (refine lC 156 62 ?_; refine wl_call0 rfl rfl has62 rfl Zhx ?_) | (refine lC 159 97 ?_; refine wl_callS rfl rfl has97 rfl Zjp ?_; intro q hq; clear hq q) | apply Wl.nil | (apply wl_buildSlice rfl rfl (slT rfl) (szT rfl) (zeroT rfl) rfl Zf7 rfl; exact Zq; intro b)) | (apply gQ; first | (apply Wq.ev rfl rfl; exact Zev)) | (apply lW; first | apply W.seq | ((show W _ _ _ _ _ _ (.inl (.region 31 _ true) :: _) _ _); refine W.regionM [11] [] [(⟨bn, true, rnO 17 [] t.t 0 t.a (ownV ts.length o1)⟩ : Ent)] mixed ?_) | apply W.region | apply W.block | apply W.skip | (refine Zbm ?_) | (refine Zbh ?_) | (refine Zbc ?_) | (refine Zx ?_; intro w hs)) | ((show Wm _ _ _ _ _ _ _ _ _ _ _ _ _ _ _ _); first | ((refine Zgg ?_)) | (refine Zgj ?_) | (refine Zgm ?_) | (refine Zhz ?_) | (refine Zh0 ?_) | (refine Zhy ?_) | ((fail_if_success (refine Zba ?_)); (refine Zgd ?_ ?_ <;> (intro h; try exact Za))) | ((fail_if_success (refine Zba ?_)); (refine Zgc ?_ ?_ <;> (intro h; try exact Za))) | apply Wm.next) | apply AllO.nil | apply AllO.cons | (refine Or.inl Zj) | ((show _ ∨ Wl _ _ _ _ _ _ _ _ _ _); apply Or.inr) | (refine Zgl ?_))
    all_goals first | (simp only [row_rn] at hs; exact rnode_own hst1 hs (ts ++ [n1]) o2 _ (tnsOk_app hok (tnsOk1 hok1)) (by rw [tnsP_app, tnsP1, hp1]) (by simpa using hown2) Zfu) | contradiction | exact Zz
   ·rcases hb5 with rfl | ⟨rfl, hq5⟩
    ·repeat' (first | (apply gL; first | (apply Wl.ev rfl rfl; exact Zev) | (refine Zge ?_; try simp only [List.set]) | (refine lC 144 99 ?_; refine wl_callS rfl rfl has99 rfl Zjt ?_; rintro n1 ⟨hok1, hp1⟩) | ((show Wl _ _ _ _ _ _ _ (⟨some 146, .call ⟨.builtin .append, _, _⟩, _, _, _, _⟩ :: _) _ _); refine Wl.reC (H' := ⟨b, true, row [ptr n1.b] 55⟩ :: (⟨bn, true, rnO 17 [] t.t 0 t.a (ownV ts.length o1)⟩ : Ent) :: ⟨r, true, rdS (.slice lp L.length lc) L (l5, true)⟩ :: ((A ++ rnsH (ts ++ [n1])) ++ ownH 55 o1)) Zbp ?_; refine wl_append_own (m := ts.length) (k := 1) (o := o1) (xs := ptrs ts) (news := [ptr n1.b]) rfl rfl (slT rfl) (szT rfl) (byT rfl) (zeroT rfl) rfl rfl rfl hown Zd rfl (fun j v h => by simpa using h) Zbn Zga Zbj Zga Zt ?_; intro o2 hown2) | (refine Zhm ?_; refine wl_call0 rfl rfl has62 rfl Zhx ?_) | (refine Zhn ?_; refine wl_call0 rfl rfl has62 rfl Zhx ?_) | (refine lC 130 62 ?_; refine wl_call0 rfl rfl has62 rfl Zhx ?_) | (refine lC 156 62 ?_; refine wl_call0 rfl rfl has62 rfl Zhx ?_) | apply Wl.nil | (refine Zbb ?_) | (apply wl_buildSlice rfl rfl (slT rfl) (szT rfl) (zeroT rfl) rfl Zf7 rfl; exact Zq; intro b)) | (apply gQ; first | (apply Wq.ev rfl rfl; exact Zev)) | (apply lW; first | apply W.seq | ((show W _ _ _ _ _ _ (.inl (.region 31 _ true) :: _) _ _); refine W.regionM [11] [] [(⟨bn, true, rnO 17 [] t.t 0 t.a (ownV ts.length o1)⟩ : Ent)] mixed ?_) | apply W.region | apply W.block | apply W.blk | apply W.skip | (refine Zbh ?_) | (refine Zbc ?_)) | ((show Wm _ _ _ _ _ _ _ _ _ _ _ _ _ _ _ _); first | ((refine Zgg ?_)) | (refine Zgj ?_) | (refine Zgm ?_) | (refine Zhz ?_) | (refine Zh0 ?_) | (refine Zhy ?_) | ((fail_if_success (refine Zba ?_)); (refine Zgd ?_ ?_ <;> (intro h; try exact Za))) | ((fail_if_success (refine Zba ?_)); (refine Zgc ?_ ?_ <;> (intro h; try exact Za))) | apply Wm.next) | apply AllO.nil | apply AllO.cons | (refine Or.inl Zj) | ((show _ ∨ Wl _ _ _ _ _ _ _ _ _ _); apply Or.inr) | (refine Zgl ?_))
     all_goals first | (refine Zgs ?_; exact W.again (bn, g, false, ts ++ [n1], o2, (l5, true)) ⟨Zd3, tnsOk_app hok (tnsOk1 hok1), by simpa using hown2, by dsimp only; rw [len_snocR ts n1]; omega, f5, by rw [tnsP_app, tnsP1, hp1]; exact eN⟩ Zc1 Zm (List.Sublist.refl _)) | (refine Zgr ?_; exact W.again (bn, g, false, ts ++ [n1], o2, (l5, false)) ⟨Zd3, tnsOk_app hok (tnsOk1 hok1), by simpa using hown2, by dsimp only; rw [len_snocR ts n1]; omega, f5, by rw [tnsP_app, tnsP1, hp1]; exact eN⟩ Zc1 Zm (List.Sublist.refl _)) | contradiction | exact Zz
    ·repeat' (first | (apply gL; first | (apply Wl.ev rfl rfl; exact Zev) | (refine Zge ?_; try simp only [List.set]) | (refine lC 144 99 ?_; refine wl_callS rfl rfl has99 rfl Zjt ?_; rintro n1 ⟨hok1, hp1⟩) | ((show Wl _ _ _ _ _ _ _ (⟨some 146, .call ⟨.builtin .append, _, _⟩, _, _, _, _⟩ :: _) _ _); refine Wl.reC (H' := ⟨b, true, row [ptr n1.b] 55⟩ :: (⟨bn, true, rnO 17 [] t.t 0 t.a (ownV ts.length o1)⟩ : Ent) :: ⟨r, true, rdS (.slice lp L.length lc) L (l5, false)⟩ :: ((A ++ rnsH (ts ++ [n1])) ++ ownH 55 o1)) Zbp ?_; refine wl_append_own (m := ts.length) (k := 1) (o := o1) (xs := ptrs ts) (news := [ptr n1.b]) rfl rfl (slT rfl) (szT rfl) (byT rfl) (zeroT rfl) rfl rfl rfl hown Zd rfl (fun j v h => by simpa using h) Zbn Zga Zbj Zga Zt ?_; intro o2 hown2) | (refine Zhm ?_; refine wl_call0 rfl rfl has62 rfl Zhx ?_) | (refine Zhn ?_; refine wl_call0 rfl rfl has62 rfl Zhx ?_) | (refine lC 130 62 ?_; refine wl_call0 rfl rfl has62 rfl Zhx ?_) | (refine lC 156 62 ?_; refine wl_call0 rfl rfl has62 rfl Zhx ?_) | apply Wl.nil | (apply wl_buildSlice rfl rfl (slT rfl) (szT rfl) (zeroT rfl) rfl Zf7 rfl; exact Zq; intro b)) | (apply gQ; first | (apply Wq.ev rfl rfl; exact Zev)) | (apply lW; first | apply W.seq | ((show W _ _ _ _ _ _ (.inl (.region 31 _ true) :: _) _ _); refine W.regionM [11] [] [(⟨bn, true, rnO 17 [] t.t 0 t.a (ownV ts.length o1)⟩ : Ent)] mixed ?_) | apply W.region | apply W.block | apply W.blk | apply W.skip | (refine Zbh ?_) | (refine Zbc ?_)) | ((show Wm _ _ _ _ _ _ _ _ _ _ _ _ _ _ _ _); first | ((refine Zgg ?_)) | (refine Zgj ?_) | (refine Zgm ?_) | (refine Zhz ?_) | (refine Zh0 ?_) | (refine Zhy ?_) | ((fail_if_success (refine Zba ?_)); (refine Zgd ?_ ?_ <;> (intro h; try exact Za))) | ((fail_if_success (refine Zba ?_)); (refine Zgc ?_ ?_ <;> (intro h; try exact Za))) | apply Wm.next) | apply AllO.nil | apply AllO.cons | (refine Or.inl Zj) | ((show _ ∨ Wl _ _ _ _ _ _ _ _ _ _); apply Or.inr) | (refine Zgl ?_))
     all_goals first | (refine Zgs ?_; exact W.again (bn, g, false, ts ++ [n1], o2, (l5, true)) ⟨Zd3, tnsOk_app hok (tnsOk1 hok1), by simpa using hown2, by dsimp only; rw [len_snocR ts n1]; omega, f5, by rw [tnsP_app, tnsP1, hp1]; exact eN⟩ Zc1 Zm (List.Sublist.refl _)) | (refine Zgr ?_; exact W.again (bn, g, false, ts ++ [n1], o2, (l5, false)) ⟨Zd3, tnsOk_app hok (tnsOk1 hok1), by simpa using hown2, by dsimp only; rw [len_snocR ts n1]; omega, f5, by rw [tnsP_app, tnsP1, hp1]; exact eN⟩ Zc1 Zm (List.Sublist.refl _)) | contradiction | exact Zz
 ·obtain ⟨s8, h8⟩ : ∃ s8, tkR (isA [[44]] (hdR (l6, false))) (l6, false) = s8 := ⟨_, rfl⟩
  rw [h8] at eR
  have f8 := tk_suf h8 f6'
  cases g0 with
  | zero => rw [rF] at eR; cases eR
  | succ g =>
   rw [rF] at eR
   obtain ⟨ps5, ⟨l5, b5⟩, e5, eR⟩ := bdR_inv eR
   have f5 : l5 <:+ L := r_suf e5 f8
   have f5' : ((l5, b5) : Rs).1 <:+ L := f5
   have e5 := rF_up (show g ≤ f by omega) e5
   clear eA eI e4
   rcases argI_next eR with ⟨hbF, hq5, eN⟩ | ⟨hb5, eN⟩
   ·obtain ⟨s7, h7⟩ : ∃ s7, tkR (isA [[41]] (hdR (l5, b5))) (l5, b5) = s7 := ⟨_, rfl⟩
    rw [h7] at eN
    cases eN
    subst hbF
    repeat' (first | (apply gL; first | (apply Wl.ev rfl rfl; exact Zev) | (refine Zge ?_; try simp only [List.set]) | (refine lC 144 99 ?_; refine wl_callS rfl rfl has99 rfl Zjt ?_; rintro n1 ⟨hok1, hp1⟩) | ((show Wl _ _ _ _ _ _ _ (⟨some 146, .call ⟨.builtin .append, _, _⟩, _, _, _, _⟩ :: _) _ _); refine Wl.reC (H' := ⟨b, true, row [ptr n1.b] 55⟩ :: (⟨bn, true, rnO 17 [] t.t 0 t.a (ownV ts.length o1)⟩ : Ent) :: ⟨r, true, rdS (.slice lp L.length lc) L (l5, false)⟩ :: ((A ++ rnsH (ts ++ [n1])) ++ ownH 55 o1)) Zbp ?_; refine wl_append_own (m := ts.length) (k := 1) (o := o1) (xs := ptrs ts) (news := [ptr n1.b]) rfl rfl (slT rfl) (szT rfl) (byT rfl) (zeroT rfl) rfl rfl rfl hown Zd rfl (fun j v h => by simpa using h) Zbn Zga Zbj Zga Zt ?_; intro o2 hown2) | (refine Zhm ?_; refine wl_call0 rfl rfl has62 rfl Zhx ?_) | (refine Zhn ?_; refine wl_call0 rfl rfl has62 rfl Zhx ?_) | (refine lC 130 62 ?_; refine wl_call0 rfl rfl has62 rfl Zhx ?_) | (refine lC 156 62 ?_; refine wl_call0 rfl rfl has62 rfl Zhx ?_) | (refine lC 137 97 ?_; refine wl_callS rfl rfl has97 rfl Zks ?_; intro q hq; clear hq q) | (refine lC 159 97 ?_; refine wl_callS rfl rfl has97 rfl Zjp ?_; intro q hq; clear hq q) | apply Wl.nil | (refine Zbb ?_) | (apply wl_buildSlice rfl rfl (slT rfl) (szT rfl) (zeroT rfl) rfl Zf7 rfl; exact Zq; intro b)) | (apply gQ; first | (apply Wq.ev rfl rfl; exact Zev)) | (apply lW; first | apply W.seq | ((show W _ _ _ _ _ _ (.inl (.region 31 _ true) :: _) _ _); refine W.regionM [11] [] [(⟨bn, true, rnO 17 [] t.t 0 t.a (ownV ts.length o1)⟩ : Ent)] mixed ?_) | apply W.region | apply W.block | apply W.skip | (refine Zbm ?_) | (refine Zbh ?_) | (refine Zx ?_; intro w hs)) | ((show Wm _ _ _ _ _ _ _ _ _ _ _ _ _ _ _ _); first | ((refine Zgg ?_)) | (refine Zgj ?_) | (refine Zgm ?_) | (refine Zhz ?_) | (refine Zh0 ?_) | (refine Zhy ?_) | ((fail_if_success (refine Zba ?_)); (refine Zgd ?_ ?_ <;> (intro h; try exact Za))) | ((fail_if_success (refine Zba ?_)); (refine Zgc ?_ ?_ <;> (intro h; try exact Za))) | apply Wm.next) | apply AllO.nil | apply AllO.cons | (refine Or.inl Zj) | ((show _ ∨ Wl _ _ _ _ _ _ _ _ _ _); apply Or.inr) | (refine Zgl ?_))
    all_goals first | (simp only [row_rn] at hs; exact rnode_own hst1 hs (ts ++ [n1]) o2 _ (tnsOk_app hok (tnsOk1 hok1)) (by rw [tnsP_app, tnsP1, hp1]) (by simpa using hown2) Zfu) | contradiction | exact Zz
   ·rcases hb5 with rfl | ⟨rfl, hq5⟩
    ·repeat' (first | (apply gL; first | (apply Wl.ev rfl rfl; exact Zev) | (refine Zge ?_; try simp only [List.set]) | (refine lC 144 99 ?_; refine wl_callS rfl rfl has99 rfl Zjt ?_; rintro n1 ⟨hok1, hp1⟩) | ((show Wl _ _ _ _ _ _ _ (⟨some 146, .call ⟨.builtin .append, _, _⟩, _, _, _, _⟩ :: _) _ _); refine Wl.reC (H' := ⟨b, true, row [ptr n1.b] 55⟩ :: (⟨bn, true, rnO 17 [] t.t 0 t.a (ownV ts.length o1)⟩ : Ent) :: ⟨r, true, rdS (.slice lp L.length lc) L (l5, true)⟩ :: ((A ++ rnsH (ts ++ [n1])) ++ ownH 55 o1)) Zbp ?_; refine wl_append_own (m := ts.length) (k := 1) (o := o1) (xs := ptrs ts) (news := [ptr n1.b]) rfl rfl (slT rfl) (szT rfl) (byT rfl) (zeroT rfl) rfl rfl rfl hown Zd rfl (fun j v h => by simpa using h) Zbn Zga Zbj Zga Zt ?_; intro o2 hown2) | (refine lC 137 97 ?_; refine wl_callS rfl rfl has97 rfl Zks ?_; intro q hq; clear hq q) | apply Wl.nil | (refine Zbb ?_) | (apply wl_buildSlice rfl rfl (slT rfl) (szT rfl) (zeroT rfl) rfl Zf7 rfl; exact Zq; intro b)) | (apply gQ; first | (apply Wq.ev rfl rfl; exact Zev)) | (apply lW; first | apply W.seq | ((show W _ _ _ _ _ _ (.inl (.region 31 _ true) :: _) _ _); refine W.regionM [11] [] [(⟨bn, true, rnO 17 [] t.t 0 t.a (ownV ts.length o1)⟩ : Ent)] mixed ?_) | apply W.region | apply W.block | apply W.blk | apply W.skip | (refine Zbh ?_) | (refine Zbc ?_)) | ((show Wm _ _ _ _ _ _ _ _ _ _ _ _ _ _ _ _); first | ((refine Zgg ?_)) | (refine Zgj ?_) | (refine Zgm ?_) | (refine Zhz ?_) | (refine Zh0 ?_) | (refine Zhy ?_) | ((fail_if_success (refine Zba ?_)); (refine Zgd ?_ ?_ <;> (intro h; try exact Za))) | ((fail_if_success (refine Zba ?_)); (refine Zgc ?_ ?_ <;> (intro h; try exact Za))) | apply Wm.next) | apply AllO.nil | apply AllO.cons | (refine Or.inl Zj) | ((show _ ∨ Wl _ _ _ _ _ _ _ _ _ _); apply Or.inr) | (refine Zgl ?_))
     all_goals first | (refine Zgs ?_; exact W.again (bn, g, false, ts ++ [n1], o2, (l5, true)) ⟨Zd3, tnsOk_app hok (tnsOk1 hok1), by simpa using hown2, by dsimp only; rw [len_snocR ts n1]; omega, f5, by rw [tnsP_app, tnsP1, hp1]; exact eN⟩ Zc1 Zm (List.Sublist.refl _)) | (refine Zgr ?_; exact W.again (bn, g, false, ts ++ [n1], o2, (l5, false)) ⟨Zd3, tnsOk_app hok (tnsOk1 hok1), by simpa using hown2, by dsimp only; rw [len_snocR ts n1]; omega, f5, by rw [tnsP_app, tnsP1, hp1]; exact eN⟩ Zc1 Zm (List.Sublist.refl _)) | contradiction | exact Zz
    ·repeat' (first | (apply gL; first | (apply Wl.ev rfl rfl; exact Zev) | (refine Zge ?_; try simp only [List.set]) | (refine lC 144 99 ?_; refine wl_callS rfl rfl has99 rfl Zjt ?_; rintro n1 ⟨hok1, hp1⟩) | ((show Wl _ _ _ _ _ _ _ (⟨some 146, .call ⟨.builtin .append, _, _⟩, _, _, _, _⟩ :: _) _ _); refine Wl.reC (H' := ⟨b, true, row [ptr n1.b] 55⟩ :: (⟨bn, true, rnO 17 [] t.t 0 t.a (ownV ts.length o1)⟩ : Ent) :: ⟨r, true, rdS (.slice lp L.length lc) L (l5, false)⟩ :: ((A ++ rnsH (ts ++ [n1])) ++ ownH 55 o1)) Zbp ?_; refine wl_append_own (m := ts.length) (k := 1) (o := o1) (xs := ptrs ts) (news := [ptr n1.b]) rfl rfl (slT rfl) (szT rfl) (byT rfl) (zeroT rfl) rfl rfl rfl hown Zd rfl (fun j v h => by simpa using h) Zbn Zga Zbj Zga Zt ?_; intro o2 hown2) | (refine Zhm ?_; refine wl_call0 rfl rfl has62 rfl Zhx ?_) | (refine Zhn ?_; refine wl_call0 rfl rfl has62 rfl Zhx ?_) | (refine lC 130 62 ?_; refine wl_call0 rfl rfl has62 rfl Zhx ?_) | (refine lC 156 62 ?_; refine wl_call0 rfl rfl has62 rfl Zhx ?_) | (refine lC 137 97 ?_; refine wl_callS rfl rfl has97 rfl Zks ?_; intro q hq; clear hq q) | apply Wl.nil | (refine Zbb ?_) | (apply wl_buildSlice rfl rfl (slT rfl) (szT rfl) (zeroT rfl) rfl Zf7 rfl; exact Zq; intro b)) | (apply gQ; first | (apply Wq.ev rfl rfl; exact Zev)) | (apply lW; first | apply W.seq | ((show W _ _ _ _ _ _ (.inl (.region 31 _ true) :: _) _ _); refine W.regionM [11] [] [(⟨bn, true, rnO 17 [] t.t 0 t.a (ownV ts.length o1)⟩ : Ent)] mixed ?_) | apply W.region | apply W.block | apply W.blk | apply W.skip | (refine Zbh ?_) | (refine Zbc ?_)) | ((show Wm _ _ _ _ _ _ _ _ _ _ _ _ _ _ _ _); first | ((refine Zgg ?_)) | (refine Zgj ?_) | (refine Zgm ?_) | (refine Zhz ?_) | (refine Zh0 ?_) | (refine Zhy ?_) | ((fail_if_success (refine Zba ?_)); (refine Zgd ?_ ?_ <;> (intro h; try exact Za))) | ((fail_if_success (refine Zba ?_)); (refine Zgc ?_ ?_ <;> (intro h; try exact Za))) | apply Wm.next) | apply AllO.nil | apply AllO.cons | (refine Or.inl Zj) | ((show _ ∨ Wl _ _ _ _ _ _ _ _ _ _); apply Or.inr) | (refine Zgl ?_))
     all_goals first | (refine Zgs ?_; exact W.again (bn, g, false, ts ++ [n1], o2, (l5, true)) ⟨Zd3, tnsOk_app hok (tnsOk1 hok1), by simpa using hown2, by dsimp only; rw [len_snocR ts n1]; omega, f5, by rw [tnsP_app, tnsP1, hp1]; exact eN⟩ Zc1 Zm (List.Sublist.refl _)) | (refine Zgr ?_; exact W.again (bn, g, false, ts ++ [n1], o2, (l5, false)) ⟨Zd3, tnsOk_app hok (tnsOk1 hok1), by simpa using hown2, by dsimp only; rw [len_snocR ts n1]; omega, f5, by rw [tnsP_app, tnsP1, hp1]; exact eN⟩ Zc1 Zm (List.Sublist.refl _)) | contradiction | exact Zz
end Go.Proofs.YtbinaeemcidicaaGreat
