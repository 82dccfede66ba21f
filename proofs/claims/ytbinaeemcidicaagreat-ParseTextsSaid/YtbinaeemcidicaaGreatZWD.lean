/- Walks: the document's reader: one of some signs, a token taken, a node made; its contracts. No condition. -/
import Derived.Test.YtbinaeemcidicaaGreatZWB
set_option maxRecDepth 100000
set_option maxHeartbeats 16000000
namespace Go.Proofs.YtbinaeemcidicaaGreat
open Go.PB Go.RowKit
attribute [local irreducible] Go.Calls
theorem ranyX {M : List Nat} {w0 w : World} {H TR R : List Ent} {r : Nat} {wr : Bool} {lv v : Value} {L : List Ti} {s : Rs} {ws : List (List UInt8)} (hst : St M w0 w H) (hr : (⟨r, wr, rdS lv L s⟩ : Ent) ∈ H) (hT : TokE TR r lv L) (hm : ∀ p ∈ TR, p ∈ H) (hsf : s.1 <:+ L)
  (hv : RdX R v ws.length (strV ws)) (hR : ∀ p ∈ R, p ∈ H) (hl : ws.length ≤ 1000000) : Calls Tryz.prog 112 #[ptr r, v] w (Give (.bool (anyA ws (hdR s))) w) := by
 have hr' := mem_ro hr; have hT' := hT.ro; have hm' := ro_mem hm
 have hv' := hv.ro
 have hR' := ro_mem hR
 obtain ⟨q, c, rfl⟩ := hv.len
 refine give_of_W (vs := [ptr r, .slice q ws.length c]) Tryz.func112 rfl Tryz.ntmps112 (Nat.le_of_ble_eq_true rfl) hst.reads ?_
 simp only [argL]
 have ht : ∀ {M : List Nat} {w0 : World} {H : List Ent} (w' : World), St M w0 w' H → (⟨r, false, rdS lv L s⟩ : Ent) ∈ H → (∀ p ∈ ro TR, p ∈ H) → Calls Tryz.prog 61 #[ptr r, .int .i64 0] w' (Give (tiV (hdR s)) w') := fun w' hs h1 h2 => rtok0 hs h1 hT' h2 hsf
 obtain ⟨t, htt⟩ : ∃ t, hdR s = t := ⟨_, rfl⟩
 rw [htt] at ht ⊢
 obtain ⟨k, tx, y, a, n⟩ := t
 dsimp only [tiV, tiC] at ht
 unfold anyA
 dsimp only
 by_cases h4 : k = 4
 ·rw [decide_eq_true h4, Bool.true_and]
  repeat' (first | (apply gL; first | (apply Wl.ev rfl rfl; exact Zev) | apply Wl.nil) | (apply gQ; first | (apply Wq.ev rfl rfl; exact Zev)) | (apply lW; first | apply W.seq | (refine W.loop (X := Nat) (fun j => [(0, ptr r), (7, .slice q ws.length c), (8, .int .i64 (ws.length : Nat)), (9, .int .i64 (j : Nat))]) (fun _ => ro H) (fun j => j ≤ ws.length ∧ ∀ a ∈ ws.take j, ¬a = tx) (fun j => ws.length - j) 0 ⟨Nat.zero_le _, by simp⟩ Zm (List.Sublist.refl _) ?_) | apply W.region | apply W.block))
  rintro j ⟨hj, hall⟩
  by_cases hlt : j < ws.length
  ·obtain ⟨b, off, c1, arr, et, fr, wr, he, hmm, hcc, hgt⟩ := hv'.pos Zga
   cases he
   have g0 := hgt j _ (strV_get hlt)
   obtain ⟨z, hz⟩ : ∃ z, ws.getD j [] = z := ⟨_, rfl⟩
   rw [hz] at g0
   repeat' (first | (apply gL; first | (apply Wl.ev rfl rfl; exact Zmp) | (refine lD 61 ?_; refine wl_call0 rfl rfl has61 rfl Zbv ?_) | apply Wl.nil) | (apply gQ; first | (apply Wq.ev rfl rfl; exact Zmp)) | (apply lW; first | apply W.seq | apply W.region | apply W.block | apply W.blk | apply W.skip | (refine Zv ?_ ?_ <;> (intro h; try exact Zh)) | (refine Zx ?_; intro w hs)))
   all_goals first
    | exact W.again (j + 1) ⟨hlt, take_snoc_all (d := []) hlt hall (by rw [hz]; intro e; exact absurd e.symm Zf5)⟩ Zga Zm (List.Sublist.refl _)
    | exact ret_eq hs (congrArg Value.bool (contains_yes hlt (hz.trans (by first | assumption | (symm; assumption)))).symm)
    | exact Zz
  ·obtain rfl : j = ws.length := by omega
   rw [List.take_length] at hall
   repeat' (first | (apply gL; first | (apply Wl.ev rfl rfl; exact Zev) | apply Wl.nil) | (apply gQ; first | (apply Wq.ev rfl rfl; exact Zev)) | (apply lW; first | apply W.seq | apply W.region | (refine Zbm ?_) | (refine Zv ?_ ?_ <;> (intro h; try exact Zh)) | (refine Zx ?_; intro w hs)))
   all_goals first | exact ret_eq hs (congrArg Value.bool (contains_no hall).symm) | exact Zz
 ·rw [decide_eq_false h4, Bool.false_and]
  repeat' (first | (apply gL; first | (apply Wl.ev rfl rfl; exact Zev) | apply Wl.nil) | (apply gQ; first | (apply Wq.ev rfl rfl; exact Zev)) | (apply lW; first | apply W.seq | (refine W.loop (X := Nat) (fun j => [(0, ptr r), (7, .slice q ws.length c), (8, .int .i64 (ws.length : Nat)), (9, .int .i64 (j : Nat))]) (fun _ => ro H) (fun j => j ≤ ws.length) (fun j => ws.length - j) 0 (Nat.zero_le _) Zm (List.Sublist.refl _) ?_) | apply W.region | apply W.block))
  rintro j hj
  by_cases hlt : j < ws.length
  ·obtain ⟨b, off, c1, arr, et, fr, wr, he, hmm, hcc, hgt⟩ := hv'.pos Zga
   cases he
   have g0 := hgt j _ (strV_get hlt)
   obtain ⟨z, hz⟩ : ∃ z, ws.getD j [] = z := ⟨_, rfl⟩
   rw [hz] at g0
   repeat' (first | (apply gL; first | (apply Wl.ev rfl rfl; exact Ze0) | (refine lD 61 ?_; refine wl_call0 rfl rfl has61 rfl Zbv ?_) | apply Wl.nil | (refine Zbb ?_)) | (apply gQ; first | (apply Wq.ev rfl rfl; exact Ze0)) | (apply lW; first | apply W.seq | apply W.region | apply W.block | apply W.blk | apply W.skip | (refine Zbc ?_) | (refine Zv ?_ ?_ <;> (intro h; try exact Zh))))
   all_goals first
    | exact W.again (j + 1) hlt Zga Zm (List.Sublist.refl _)
    | exact Zz | contradiction
  ·obtain rfl : j = ws.length := by omega
   repeat' (first | (apply gL; first | (apply Wl.ev rfl rfl; exact Zev) | apply Wl.nil) | (apply gQ; first | (apply Wq.ev rfl rfl; exact Zev)) | (apply lW; first | apply W.seq | apply W.region | (refine Zbm ?_) | (refine Zv ?_ ?_ <;> (intro h; try exact Zh)) | (refine Zx ?_; intro w hs)))
   all_goals first | exact ret_eq hs rfl | exact Zz
theorem rany {M : List Nat} {w0 w : World} {H TR : List Ent} {r q n : Nat} {wr : Bool} {lv : Value} {L : List Ti} {s : Rs} {ws : List (List UInt8)} {x : Bool} (hst : St M w0 w H) (hb : (⟨q, true, row (strV ws) 9⟩ : Ent) ∈ H) (hr : (⟨r, wr, rdS lv L s⟩ : Ent) ∈ H) (hT : TokE TR r lv L) (hm : ∀ p ∈ TR, p ∈ H) (hsf : s.1 <:+ L)
  (hx : anyA ws (hdR s) = x) (hn : n = ws.length) (hl : ws.length ≤ 1000000) : Calls Tryz.prog 112 #[ptr r, .slice (some ⟨q, 0, none⟩) n n] w (Give (.bool x) w) := by
 subst hn hx
 exact ranyX (R := [⟨q, true, row (strV ws) 9⟩]) hst hr hT hm hsf (rdx_row (List.Mem.head _) rfl) (fun e he => by rw [List.mem_singleton.1 he]; exact hb) hl
theorem rdS_next {lv : Value} {L l : List Ti} (h : l <:+ L) (hne : l ≠ []) : rdS lv L (l.drop 1, false) = row [lv, .int .i64 (((L.length - l.length : Nat) : Int) + 1), .bool false] 54 := by
 have h1 := h.length_le
 cases l with
 | nil => exact absurd rfl hne
 | cons t l =>
  have h1' : l.length + 1 ≤ L.length := h1
  show rdO lv (L.length - l.length) false = _
  unfold rdO
  rw [show ((L.length - l.length : Nat) : Int) = ((L.length - (t :: l).length : Nat) : Int) + 1 by simp only [List.length_cons]; omega]
theorem rtake {M : List Nat} {w0 w : World} {H H' TR : List Ent} {r : Nat} {lv : Value} {L : List Ti} {s s' : Rs} {ok : Bool} (hst : St M w0 w H) (hu : Upd H r (rdS lv L s) (rdS lv L s') H') (he : tkR ok s = s') (hT : TokE TR r lv L) (hm : ∀ p ∈ TR, p ∈ H) (hsf : s.1 <:+ L) (hne : ok = true → s.2 = false → s.1 ≠ []) :
  Calls Tryz.prog 63 #[ptr r, .bool ok] w (GivesS (fun _ : Unit => tiV (hdR s)) (fun _ => True) M w0 fun _ => H') := by
 obtain ⟨A, p1, p2⟩ := hu.front
 have hTA : ∀ e ∈ TR, e ∈ A := fun e he => mem_front p1 (hm e he) (hT.2.1 e he)
 have hst1 := hst.perm p1
 have hL := hT.2.2.1
 have hpk : ∀ {H : List Ent} (w' : World), St (wrs (⟨r, true, rdS lv L s⟩ :: A)) w w' H → (⟨r, true, rdS lv L s⟩ : Ent) ∈ H → (∀ p ∈ TR, p ∈ H) → Calls Tryz.prog 61 #[ptr r, .int .i64 0] w' (Give (tiV (hdR s)) w') := fun w' hs h1 h2 => rtok0 hs h1 hT h2 hsf
 obtain ⟨t, htt⟩ : ∃ t, hdR s = t := ⟨_, rfl⟩
 rw [htt] at hpk ⊢
 obtain ⟨k, tx, x, at_, n⟩ := t
 obtain ⟨l, b⟩ := s
 have hl := hsf.length_le
 dsimp only at hl hsf hne
 refine calls_of_W (vs := [ptr r, .bool ok]) Tryz.func63 rfl Tryz.ntmps63 (Nat.le_of_ble_eq_true rfl) hst1.fromHere ?_
 simp only [argL]
 subst he
 cases b
 ·cases ok
  ·replace p2 : List.Perm H' (⟨r, true, row [lv, .int .i64 ((L.length - l.length : Nat) : Int), .bool true] 54⟩ :: A) := p2
   repeat' (first | (apply gL; first | (apply Wl.ev rfl rfl; exact Zev) | (refine Zf6 ?_) | (refine lD 61 ?_; refine wl_call0 rfl rfl has61 rfl Zg7 ?_) | apply Wl.nil | (refine Zu ?_; intro b) | (refine Zf9 ?_; try simp only [List.set])) | (apply gQ; first | (apply Wq.ev rfl rfl; exact Zev)) | (apply lW; first | apply W.seq | apply W.region | apply W.skip | (refine Zbh ?_) | (refine Zbc ?_) | (refine Zgy ?_; intro w hs)))
   all_goals first | exact GivesS.ofC hst1 hs () trivial rfl Zcj | contradiction | exact Zz
  ·have hn := hne rfl rfl
   replace p2 : List.Perm H' (⟨r, true, row [lv, .int .i64 (((L.length - l.length : Nat) : Int) + 1), .bool false] 54⟩ :: A) := by
    rw [← rdS_next hsf hn]
    exact p2
   repeat' (first | (apply gL; first | (apply Wl.ev rfl rfl; exact Zev) | (refine Zf6 ?_) | (refine lD 61 ?_; refine wl_call0 rfl rfl has61 rfl Zg7 ?_) | apply Wl.nil | (refine Zu ?_; intro b) | (refine Zf9 ?_; try simp only [List.set])) | (apply gQ; first | (apply Wq.ev rfl rfl; exact Zev)) | (apply lW; first | apply W.seq | apply W.region | apply W.skip | (refine Zbh ?_) | (refine Zbc ?_) | (refine Zgy ?_; intro w hs)))
   all_goals first | exact GivesS.ofC hst1 hs () trivial rfl Zcj | contradiction | exact Zz
 ·cases ok
  ·replace p2 : List.Perm H' (⟨r, true, row [lv, .int .i64 ((L.length - l.length : Nat) : Int), .bool true] 54⟩ :: A) := p2
   repeat' (first | (apply gL; first | (apply Wl.ev rfl rfl; exact Zev) | (refine Zf6 ?_) | (refine lD 61 ?_; refine wl_call0 rfl rfl has61 rfl Zg7 ?_) | apply Wl.nil | (refine Zu ?_; intro b) | (refine Zf9 ?_; try simp only [List.set])) | (apply gQ; first | (apply Wq.ev rfl rfl; exact Zev)) | (apply lW; first | apply W.seq | apply W.region | apply W.skip | (refine Zbh ?_) | (refine Zbc ?_) | (refine Zgy ?_; intro w hs)))
   all_goals first | exact GivesS.ofC hst1 hs () trivial rfl Zcj | contradiction | exact Zz
  ·replace p2 : List.Perm H' (⟨r, true, rdS lv L (l, true)⟩ :: A) := p2
   repeat' (first | (apply gL; first | (apply Wl.ev rfl rfl; exact Zev) | (refine Zf6 ?_) | (refine lD 61 ?_; refine wl_call0 rfl rfl has61 rfl Zg7 ?_) | apply Wl.nil | (refine Zu ?_; intro b)) | (apply gQ; first | (apply Wq.ev rfl rfl; exact Zev)) | (apply lW; first | apply W.seq | apply W.region | apply W.skip | (refine Zbc ?_) | (refine Zgy ?_; intro w hs)))
   all_goals first | exact GivesS.ofC hst1 hs () trivial rfl Zcj | contradiction | exact Zz
theorem isA_ne {ws : List (List UInt8)} {s : Rs} (h : isA ws (hdR s) = true) : s.1 ≠ [] := fun e => by
 unfold hdR at h
 rw [e] at h
 exact absurd h (by simp [isA_nilR])
theorem any_ne {ws : List (List UInt8)} {s : Rs} (h : anyA ws (hdR s) = true) : s.1 ≠ [] := fun e => by
 unfold hdR at h
 rw [e] at h
 exact absurd h (by simp [any_nil])
theorem nam_ne {s : Rs} (h : namedT (hdR s) = true) : s.1 ≠ [] := fun e => by
 unfold hdR at h
 rw [e] at h
 exact absurd h Zf7
theorem typ_ne {s : Rs} (h : typedT (hdR s) = true) : s.1 ≠ [] := fun e => by
 unfold hdR at h
 rw [e] at h
 exact absurd h Zf7
theorem rsign {M : List Nat} {w0 w : World} {H H' TR : List Ent} {r : Nat} {lv : Value} {L : List Ti} {s s' : Rs} {u : List UInt8} (hst : St M w0 w H) (hu : Upd H r (rdS lv L s) (rdS lv L s') H') (he : tkR (isA [u] (hdR s)) s = s') (hT : TokE TR r lv L) (hm : ∀ p ∈ TR, p ∈ H) (hsf : s.1 <:+ L) :
  Calls Tryz.prog 97 #[ptr r, st u] w (GivesS (fun _ : Unit => tiV (hdR s)) (fun _ => True) M w0 fun _ => H') := by
 obtain ⟨A, p1, p2⟩ := hu.front
 have hTA : ∀ e ∈ TR, e ∈ A := fun e he => mem_front p1 (hm e he) (hT.2.1 e he)
 have hst1 := hst.perm p1
 refine calls_of_W (vs := [ptr r, st u]) Tryz.func97 rfl Tryz.ntmps97 (Nat.le_of_ble_eq_true rfl) hst1.fromHere ?_
 simp only [argL]
 have hk : ∀ {M : List Nat} {w0 : World} {H H' : List Ent} (w' : World), St M w0 w' H → Upd H r (rdS lv L s) (rdS lv L s') H' → (∀ p ∈ TR, p ∈ H) → Calls Tryz.prog 63 #[ptr r, .bool (isA [u] (hdR s))] w' (GivesS (fun _ : Unit => tiV (hdR s)) (fun _ => True) M w0 fun _ => H') :=
  fun w' hs hu' hm' => rtake hs hu' he hT hm' hsf fun h _ => isA_ne h
 have hi : ∀ {M : List Nat} {w0 : World} {H : List Ent} (w' : World), St M w0 w' H → (⟨r, true, rdS lv L s⟩ : Ent) ∈ H → (∀ p ∈ TR, p ∈ H) → Calls Tryz.prog 62 #[ptr r, st u] w' (Give (.bool (isA [u] (hdR s))) w') :=
  fun w' hs h1 h2 => ris hs h1 hT h2 hsf rfl
 obtain ⟨t, htt⟩ : ∃ t, hdR s = t := ⟨_, rfl⟩
 obtain ⟨y, hy⟩ : ∃ y, isA [u] (hdR s) = y := ⟨_, rfl⟩
 rw [hy, htt] at hk
 rw [hy] at hi
 rw [htt]
 obtain ⟨k, tx, x, a1, n⟩ := t
 repeat' (first | (apply gL; first | (apply Wl.ev rfl rfl; exact Zev) | (refine Zf6 ?_) | (refine lD 62 ?_; refine wl_call0 rfl rfl has62 rfl (fun w hs => hi w hs Zd Zb9) ?_) | (refine lD 63 ?_; refine wl_callS rfl rfl has63 rfl (fun w hs => hk w hs Ze Zb9) ?_; intro q hq; clear hq) | apply Wl.nil | (refine Zu ?_; intro b)) | (apply gQ; first | (apply Wq.ev rfl rfl; exact Zev)) | (apply lW; first | apply W.seq | apply W.region | (refine Zgy ?_; intro w hs)))
 all_goals first | exact GivesS.ofC hst1 hs () trivial rfl Zcj | exact Zz
theorem rpart_ok (kd pl : Int) (p : Option Addr) (n c : Nat) (w : World) :
  Calls Tryz.prog 40 #[.int .i64 kd, .int .i64 pl, .slice p n c] w (Gives (fun b : Nat => ptr b) (fun _ => True) w (fun _ => []) fun b => [(b, rnO kd [] [] 0 pl (.slice p n c))]) := by
 refine calls_of_W (vs := [.int .i64 kd, .int .i64 pl, .slice p n c]) Tryz.func40 rfl Tryz.ntmps40 (Nat.le_of_ble_eq_true rfl) (St.nil w []) ?_
 simp only [argL]
 repeat' (first | (apply gL; first | (apply Wl.ev rfl rfl; exact Zev) | (refine lB _ ?_; refine wl_box rfl rfl rfl rfl ?_; intro bt) | apply Wl.nil) | (apply gQ; first | (apply Wq.ev rfl rfl; exact Zev)) | (apply lW; first | apply W.seq | apply W.region | (refine Zx ?_; intro w hs)))
 all_goals first | exact ret_new hs _ trivial rfl Zb
theorem rpart {M : List Nat} {w0 w : World} {H : List Ent} (hst : St M w0 w H) (kd pl : Int) (p : Option Addr) (n c : Nat) :
  Calls Tryz.prog 40 #[.int .i64 kd, .int .i64 pl, .slice p n c] w (GivesS (fun b : Nat => ptr b) (fun _ => True) M w0 fun b => ⟨b, true, rnO kd [] [] 0 pl (.slice p n c)⟩ :: H) :=
 (rpart_ok kd pl p n c w).mono fun _ _ ⟨x, _, he, ht⟩ => ⟨x, trivial, he, hst.turn0 ht⟩
end Go.Proofs.YtbinaeemcidicaaGreat
namespace Go.Proofs.YtbinaeemcidicaaGreat
open Go.PB Go.RowKit
attribute [local irreducible] Go.Calls
mutual
def rnH : Tn → List Ent
 | .mk b kd ty tx nm pl o ks => ⟨b, true, rnO kd ty tx nm pl (ownV ks.length o)⟩ :: (ownH 55 o ++ rnsH ks)
def rnsH : List Tn → List Ent
 | [] => []
 | t :: l => rnH t ++ rnsH l
end
theorem rnsH_flat : ∀ l : List Tn, rnsH l = l.flatMap rnH
 | [] => rfl
 | t :: l => by rw [rnsH, rnsH_flat l]; rfl
theorem rnsH_app (a b : List Tn) : rnsH (a ++ b) = rnsH a ++ rnsH b := by rw [rnsH_flat, rnsH_flat, rnsH_flat, List.flatMap_append]
theorem rnsH1 (t : Tn) : rnsH [t] = rnH t := by rw [rnsH, rnsH, List.append_nil]
theorem row_rn {kd : Int} {ty tx : List UInt8} {nm pl : Int} {kv : Value} : row [.int .i64 kd, st ty, st tx, .int .i32 nm, .slice none 0 0, .int .i64 pl, kv] 79 = rnO kd ty tx nm pl kv := rfl
theorem rn_head {b : Nat} {kd : Int} {ty tx : List UInt8} {nm pl : Int} {o : Ow} {ks : List Tn} {X : List Ent} : (⟨b, true, rnO kd ty tx nm pl (ownV ks.length o)⟩ : Ent) ∈ X ++ rnH (.mk b kd ty tx nm pl o ks) := by
 rw [rnH]
 exact List.mem_append_right _ (List.Mem.head _)
theorem rnH_new {b : Nat} {kd : Int} {ty tx : List UInt8} {nm pl : Int} {kb n : Nat} {ts : List Tn} (hn : ts.length = n) : rnH (tnNew b kd ty tx nm pl kb n ts) = ⟨b, true, rnO kd ty tx nm pl (.slice (some ⟨kb, 0, none⟩) n n)⟩ :: ⟨kb, true, row (ptrs ts) 55⟩ :: rnsH ts := by
 subst hn
 rw [rnH]
 rfl
theorem rnode_new {M : List Nat} {w0 w w' : World} {H H1 : List Ent} {K : List Ent → List Ent} {b kb n : Nat} {kd : Int} {ty tx : List UInt8} {nm pl : Int} (hst : St M w0 w H) (hs : St (wrs H) w w' H1) (ts : List Tn) (ps : List Pt) (hts : tnsOk ts) (hps : tnsP ts = ps) (hn : ts.length = n) (hl : n ≤ 1000)
  (hc : ∀ e, (K (⟨b, true, rnO kd ty tx nm pl (.slice (some ⟨kb, 0, none⟩) n n)⟩ :: ⟨kb, true, row (ptrs ts) 55⟩ :: rnsH ts)).count e ≤ H1.count e) :
  GivesS (fun t : Tn => ptr t.b) (fun t => tnOk t ∧ tnP t = hdP [.mk kd ty tx nm pl ps]) M w0 (fun t => K (rnH t)) (.returned (ptr b)) w' := by
 refine GivesS.ofC hst hs (.mk b kd ty tx nm pl (some (kb, n, (ptrs ts).toArray)) ts) ⟨?_, ?_⟩ rfl ?_
 ·rw [tnOk]
  exact ⟨⟨Nat.le_of_eq hn, Nat.le_trans hl Zf7, by simp [hn], by rw [Nat.mul_one, List.take_of_length_le Zgn], by simp⟩, hts⟩
 ·rw [tnP, hps]; rfl
 ·rw [rnH]
  subst hn
  exact hc
theorem rnode_leaf {M : List Nat} {w0 w w' : World} {H H1 : List Ent} {K : List Ent → List Ent} {b : Nat} {kd : Int} {ty tx : List UInt8} {nm pl : Int} (hst : St M w0 w H) (hs : St (wrs H) w w' H1)
  (hc : ∀ e, (K [⟨b, true, rnO kd ty tx nm pl (.slice none 0 0)⟩]).count e ≤ H1.count e) :
  GivesS (fun t : Tn => ptr t.b) (fun t => tnOk t ∧ tnP t = hdP [.mk kd ty tx nm pl []]) M w0 (fun t => K (rnH t)) (.returned (ptr b)) w' := by
 refine GivesS.ofC hst hs (.mk b kd ty tx nm pl none []) ⟨?_, ?_⟩ rfl ?_
 ·rw [tnOk]
  exact ⟨⟨rfl, rfl⟩, by rw [tnsOk]; trivial⟩
 ·rw [tnP, tnsP]; rfl
 ·rw [rnH, rnsH]
  exact hc
theorem rnode_own {M : List Nat} {w0 w w' : World} {H H1 : List Ent} {K : List Ent → List Ent} {b : Nat} {kd : Int} {ty tx : List UInt8} {nm pl : Int} (hst : St M w0 w H) (hs : St (wrs H) w w' H1) (ts : List Tn) (o : Ow) (ps : List Pt) (hts : tnsOk ts) (hps : tnsP ts = ps) (ho : ownOk ts.length 1 (ptrs ts) o)
  (hc : ∀ e, (K (⟨b, true, rnO kd ty tx nm pl (ownV ts.length o)⟩ :: (ownH 55 o ++ rnsH ts))).count e ≤ H1.count e) :
  GivesS (fun t : Tn => ptr t.b) (fun t => tnOk t ∧ tnP t = hdP [.mk kd ty tx nm pl ps]) M w0 (fun t => K (rnH t)) (.returned (ptr b)) w' := by
 refine GivesS.ofC hst hs (.mk b kd ty tx nm pl o ts) ⟨?_, ?_⟩ rfl ?_
 ·rw [tnOk]
  exact ⟨ho, hts⟩
 ·rw [tnP, hps]; rfl
 ·rw [rnH]
  exact hc
theorem len_snocR (l : List Tn) (t : Tn) : (l ++ [t]).length = l.length + 1 := by simp
theorem own_oneR (n : Nat) (o : Ow) : (ownV n o).oneCell' = true := by cases o <;> rfl
def RefG (G : Rs → Ro) (F : FuncId) (vs : List Value) : Prop := ∀ {M : List Nat} {w0 w : World} {H : List Ent} {K : List Ent → List Ent} {TR : List Ent} {r : Nat} {lv : Value} {L : List Ti} {s s' : Rs} {ps : List Pt},
 St M w0 w H → UpdT H r (rdS lv L s) (rdS lv L s') K → TokE TR r lv L → (∀ p ∈ TR, p ∈ H) → s.1 <:+ L → G s = some (ps, s') → Calls Tryz.prog F (ptr r :: vs).toArray w (GivesS (fun t : Tn => ptr t.b) (fun t => tnOk t ∧ tnP t = hdP ps) M w0 (fun t => K (rnH t)))
abbrev RefC (f : Nat) (n : Nt) (F : FuncId) (vs : List Value) : Prop := RefG (rF f n) F vs
theorem rcall {G : Rs → Ro} {F : FuncId} {vs : List Value} (ih : RefG G F vs) {M : List Nat} {w0 w : World} {H : List Ent} {K : List Ent → List Ent} {TR : List Ent} {r : Nat} {lv : Value} {L : List Ti} {s s' : Rs} {ps : List Pt}
  (hst : St M w0 w H) (hu : UpdT H r (rdS lv L s) (rdS lv L s') K) (e : G s = some (ps, s')) (hT : TokE TR r lv L) (hm : ∀ p ∈ TR, p ∈ H) (hsf : s.1 <:+ L) :
  Calls Tryz.prog F (ptr r :: vs).toArray w (GivesS (fun t : Tn => ptr t.b) (fun t => tnOk t ∧ tnP t = hdP ps) M w0 (fun t => K (rnH t))) := ih hst hu hT hm hsf e
section
variable {M : List Nat} {w0 w : World} {H H' TR : List Ent} {r : Nat} {lv : Value} {L : List Ti} {s s' : Rs} {t : Ti}
theorem rsignV {u : List UInt8} (hst : St M w0 w H) (hu : Upd H r (rdS lv L s) (rdS lv L s') H') (he : tkR (isA [u] (hdR s)) s = s') (ht : hdR s = t) (hT : TokE TR r lv L) (hm : ∀ p ∈ TR, p ∈ H) (hsf : s.1 <:+ L) :
  Calls Tryz.prog 97 #[ptr r, st u] w (GivesS (fun _ : Unit => tiV t) (fun _ => True) M w0 fun _ => H') := by
 subst ht
 exact rsign hst hu he hT hm hsf
theorem rtakeV {ok : Bool} (hst : St M w0 w H) (hu : Upd H r (rdS lv L s) (rdS lv L s') H') (he : tkR ok s = s') (ht : hdR s = t) (hT : TokE TR r lv L) (hm : ∀ p ∈ TR, p ∈ H) (hsf : s.1 <:+ L) (hne : ok = true → s.2 = false → s.1 ≠ []) :
  Calls Tryz.prog 63 #[ptr r, .bool ok] w (GivesS (fun _ : Unit => tiV t) (fun _ => True) M w0 fun _ => H') := by
 subst ht
 exact rtake hst hu he hT hm hsf hne
theorem rtok0V {wr : Bool} (hst : St M w0 w H) (hr : (⟨r, wr, rdS lv L s⟩ : Ent) ∈ H) (hT : TokE TR r lv L) (hm : ∀ p ∈ TR, p ∈ H) (hs : s.1 <:+ L) (ht : hdR s = t) :
  Calls Tryz.prog 61 #[ptr r, .int .i64 0] w (Give (tiV t) w) := by
 subst ht
 exact rtok0 hst hr hT hm hs
theorem rtok1V {wr : Bool} (hst : St M w0 w H) (hr : (⟨r, wr, rdS lv L s⟩ : Ent) ∈ H) (hT : TokE TR r lv L) (hm : ∀ p ∈ TR, p ∈ H) (hs : s.1 <:+ L) (ht : hd2R s = t) :
  Calls Tryz.prog 61 #[ptr r, .int .i64 1] w (Give (tiV t) w) := by
 subst ht
 exact rtok1 hst hr hT hm hs
end
theorem whole_ne {s : Rs} {t : Ti} (h : decide (t.k = 2) = true) (ht : hdR s = t) : s.1 ≠ [] := fun e => by
 unfold hdR at ht
 rw [e] at ht
 subst ht
 exact absurd h Zf7
theorem bdR_inv {q : Ro} {k : List Pt → Rs → Ro} {x} (h : bdR q k = some x) : ∃ ps s, q = some (ps, s) ∧ k ps s = some x := by
 cases q with
 | none => cases h
 | some y => exact ⟨y.1, y.2, rfl, h⟩
theorem ryA_inv {ws : List (List UInt8)} {l : List Ti} {b : Bool} {k : Ti → Rs → Ro} {e : Ro} {x} (h : ryA ws (l, b) k e = x) : (b = false ∧ anyA ws (hdR (l, b)) = true ∧ k (hdR (l, b)) (tkR true (l, b)) = x) ∨ (b = true ∧ e = x) ∨ (b = false ∧ anyA ws (hdR (l, b)) = false ∧ e = x) := by
 unfold ryA at h
 cases b with
 | true => exact .inr (.inl ⟨rfl, h⟩)
 | false =>
  cases ha : anyA ws (hdR (l, false)) with
  | true => rw [ha] at h; exact .inl ⟨rfl, rfl, h⟩
  | false => rw [ha] at h; exact .inr (.inr ⟨rfl, rfl, h⟩)
theorem ryI_inv {ws : List (List UInt8)} {l : List Ti} {b : Bool} {k : Ti → Rs → Ro} {e : Ro} {x} (h : ryI ws (l, b) k e = x) : (b = false ∧ isA ws (hdR (l, b)) = true ∧ k (hdR (l, b)) (tkR true (l, b)) = x) ∨ (b = true ∧ e = x) ∨ (b = false ∧ isA ws (hdR (l, b)) = false ∧ e = x) := by
 unfold ryI at h
 cases b with
 | true => exact .inr (.inl ⟨rfl, h⟩)
 | false =>
  cases ha : isA ws (hdR (l, false)) with
  | true => rw [ha] at h; exact .inl ⟨rfl, rfl, h⟩
  | false => rw [ha] at h; exact .inr (.inr ⟨rfl, rfl, h⟩)
theorem tkR_suf (ok : Bool) (s : Rs) : (tkR ok s).1 <:+ s.1 := by
 unfold tkR
 split
 ·exact List.suffix_refl _
 ·exact List.drop_suffix 1 s.1
theorem tk_suf {ok : Bool} {s s' : Rs} {L : List Ti} (h : tkR ok s = s') (hs : s.1 <:+ L) : s'.1 <:+ L := by
 subst h
 exact (tkR_suf ok s).trans hs
def SuR (l : List Ti) (q : Ro) : Prop := ∀ ps s', q = some (ps, s') → s'.1 <:+ l
theorem su_ok {l : List Ti} {ps : List Pt} {s : Rs} (h : s.1 <:+ l) : SuR l (okR ps s) := fun qs s' e => by
 cases e
 exact h
theorem su_bd {l : List Ti} {q : Ro} {k : List Pt → Rs → Ro} (hq : SuR l q) (hk : ∀ ps s', s'.1 <:+ l → SuR l (k ps s')) : SuR l (bdR q k) := fun qs s' e => by
 obtain ⟨ps, s1, h1, h2⟩ := bdR_inv e
 exact hk ps s1 (hq _ _ h1) qs s' h2
theorem su_tk {l : List Ti} {p : Ti → Bool} {s : Rs} {k : Ti → Rs → Ro} (hs : s.1 <:+ l) (hk : ∀ t s', s'.1 <:+ l → SuR l (k t s')) : SuR l (rtk p s k) := hk _ _ ((tkR_suf _ s).trans hs)
theorem su_ite {l : List Ti} {P : Prop} [Decidable P] {a b : Ro} (ha : SuR l a) (hb : SuR l b) : SuR l (if P then a else b) := by
 split
 ·exact ha
 ·exact hb
theorem su_yA {l : List Ti} {ws : List (List UInt8)} {s : Rs} {k : Ti → Rs → Ro} {e : Ro} (hs : s.1 <:+ l) (hk : ∀ t s', s'.1 <:+ l → SuR l (k t s')) (he : SuR l e) : SuR l (ryA ws s k e) := su_ite (hk _ _ ((tkR_suf _ s).trans hs)) he
theorem su_yI {l : List Ti} {ws : List (List UInt8)} {s : Rs} {k : Ti → Rs → Ro} {e : Ro} (hs : s.1 <:+ l) (hk : ∀ t s', s'.1 <:+ l → SuR l (k t s')) (he : SuR l e) : SuR l (ryI ws s k e) := su_ite (hk _ _ ((tkR_suf _ s).trans hs)) he
theorem su_cm {l : List Ti} {s : Rs} {d m : Rs → Ro} (hs : s.1 <:+ l) (hd : ∀ s', s'.1 <:+ l → SuR l (d s')) (hm : ∀ s', s'.1 <:+ l → SuR l (m s')) : SuR l (rcm s d m) := su_ite (su_tk hs fun _ s' h => hd s' h) (su_tk hs fun _ s' h => hm s' h)
theorem su_top {l : List Ti} {g : Nt → Rs → Ro} (hg : ∀ n s, s.1 <:+ l → SuR l (g n s)) {s : Rs} (hs : s.1 <:+ l) : SuR l (topR g s) := by
 unfold topR
 exact su_ite (su_tk ((tkR_suf _ s).trans hs) fun t s' h => hg _ _ h) (su_tk hs fun t s' h => su_ite (hg _ _ h) (hg _ _ h))
theorem rF_suf : ∀ (f : Nat) (n : Nt) (l : List Ti) (s : Rs), s.1 <:+ l → SuR l (rF f n s)
 | 0, n, l, s, _ => fun ps s' e => by rw [rF] at e; cases e
 | f + 1, n, l, s, hs => by
  have ih := fun n s hs => rF_suf f n l s hs
  have ht : ∀ ok, (tkR ok s).1 <:+ l := fun ok => (tkR_suf ok s).trans hs
  cases n <;> (rw [rF]; repeat' (first
   | exact su_ok Zf5 | exact su_ok (ht _)
   | (refine su_bd (ih _ _ Zf5) fun ps s' hs => ?_) | (refine su_bd (ih _ _ (ht _)) fun ps s' hs => ?_) | (refine su_bd (su_top ih Zf5) fun ps s' hs => ?_)
   | (refine su_tk Zf5 fun t s' hs => ?_) | (refine su_tk (ht _) fun t s' hs => ?_)
   | (refine su_yA Zf5 (fun t s' hs => ?_) ?_) | (refine su_yI Zf5 (fun t s' hs => ?_) ?_)
   | (refine su_cm Zf5 (fun s' hs => ?_) fun s' hs => ?_)
   | (refine su_ite ?_ ?_)
   | exact ih _ _ Zf5 | exact ih _ _ (ht _)))
theorem r_suf {f : Nat} {n : Nt} {s s' : Rs} {ps : List Pt} {L : List Ti} (e : rF f n s = some (ps, s')) (h : s.1 <:+ L) : s'.1 <:+ L := rF_suf f n L s h ps s' e
end Go.Proofs.YtbinaeemcidicaaGreat
