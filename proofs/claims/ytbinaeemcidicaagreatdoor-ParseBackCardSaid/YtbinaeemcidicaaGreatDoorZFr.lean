/- Walks: the law ParseBack. No condition but the cell that the library's search reads, and the table of powers. -/
import Derived.Test.YtbinaeemcidicaaGreatDoorZYP
import Derived.Test.YtbinaeemcidicaaGreatDoorZQP
import Derived.Test.YtbinaeemcidicaaGreatDoorTie
import Derived.Test.YtbinaeemcidicaaGreatDoorCards
import Derived.WalkKit
import Derived.ProofKit
import Derived.OpenShut
import Derived.Carry
import Derived.LaidMore
import Derived.Lay
import Derived.SevenTiedAt
import Derived.HandedShaped
import Derived.Stop.Joined
import Derived.Stop.LaidErr
import Derived.Lib.LaidTab
set_option maxRecDepth 100000
set_option maxHeartbeats 16000000
namespace Go.Proofs.YtbinaeemcidicaaGreatDoor
open Go.PB Go.RowKit
attribute [local irreducible] Go.Calls
theorem par_err {s : List UInt8} {T : List Tk} {p f : Nat} (h : lexS s = (T, 0, p)) {L l' : List Ti} (hL : ∀ t ∈ L, t ∈ T.map tiOf) (hn : L.length ≤ 2048) {M : List Nat} {w0 w : World} {A : List Ent} {lv : Value} {o : Option (List Pt)}
  (e : pF f (.shad []) L = some (o, l')) {er a : Int} (hsp : spotO L o l' = (er, a)) (he : ¬er = 0) (hst : St M w0 w A) (hx : MxE A) (hv : RdX A lv L.length (tisC L)) :
  Calls Tryz.prog 15 #[lv] w (GivesS (fun _ : Unit => .tuple #[.agg [.slice none 0 0].toArray, .agg [.int .i64 er, .int .i64 a].toArray]) (fun _ => True) M w0 fun _ => A) := by
 have hp := par_lex h hL hn hst hx hv e
 refine hp.mono fun e2 w' hR => ?_
 unfold ParR at hR
 unfold spotO at hsp
 cases o with
 | none =>
  dsimp only at hR hsp
  cases hsp
  exact hR
 | some ps =>
  dsimp only at hR hsp
  obtain ⟨⟨ns, sp⟩, hrr⟩ : ∃ rr, putP (.mk 1 [] [] 0 0 ps) 0 0 none = rr := ⟨_, rfl⟩
  rw [hrr] at hR hsp
  cases sp with
  | none => cases hsp; exact absurd rfl he
  | some y => cases hsp; exact hR
section
variable {s : List UInt8} {T : List Tk} {p f : Nat} {L l' : List Ti} {M : List Nat} {w0 w : World} {A : List Ent} {lv : Value} {ps : List Pt}
theorem par_good (h : lexS s = (T, 0, p)) (hL : ∀ t ∈ L, t ∈ T.map tiOf) (hn : L.length ≤ 2048)
  (e : pF f (.shad []) L = some (some ps, l')) (hg : hgtL ps ≤ 32) (hst : St M w0 w A) (hx : MxE A) (hv : RdX A lv L.length (tisC L)) :
  Calls Tryz.prog 15 #[lv] w (GivesS (fun x : List Nk × Ow => .tuple #[.agg [ownV x.1.length x.2].toArray, .agg [.int .i64 0, .int .i64 0].toArray]) (fun x => x.1.map Prod.fst = fltP (.mk 1 [] [] 0 0 ps) 0 ∧ ownOk x.1.length 6 (ndsC x.1) x.2 ∧ ndKok x.1) M w0 fun x => (A ++ ndKH x.1) ++ ownH 47 x.2) := by
 have hp := par_lex h hL hn hst hx hv e
 unfold ParR at hp
 dsimp only at hp
 rw [putP_flt (.mk 1 [] [] 0 0 ps) 0 0 (by rw [hgtP]; omega)] at hp
 exact hp
theorem par_tree {n : Nat} {C R : List Ent} (_ : C.length = n) (h : lexS s = (T, 0, p)) (hL : ∀ t ∈ L, t ∈ T.map tiOf) (hn : L.length ≤ 2048)
  (e : pF f (.shad []) L = some (some ps, l')) (hg : hgtL ps ≤ 32) (hst : St M w0 w (C ++ R)) (hx : MxE (C ++ R)) (hv : RdX (C ++ R) lv L.length (tisC L)) :
  Calls Tryz.prog 15 #[lv] w (GivesS (fun x : List Nk × List Ent × Option Addr × Nat => .tuple #[.agg [.slice x.2.2.1 x.1.length x.2.2.2].toArray, .agg [.int .i64 0, .int .i64 0].toArray])
   (fun x => x.1.map Prod.fst = fltP (.mk 1 [] [] 0 0 ps) 0 ∧ RdT x.2.1 (.slice x.2.2.1 x.1.length x.2.2.2) (x.1.map plaV) ∧ ∀ e ∈ R, e ∈ x.2.1) M w0 fun x => C ++ x.2.1) := by
 refine (par_good h hL hn e hg hst hx hv).mono fun e w' hR => ?_
 obtain ⟨⟨N, o⟩, ⟨h1, h2, h3⟩, he, hs⟩ := hR
 dsimp only at h1 h2 h3 he hs
 have hT : RdT ((R ++ ndKH N) ++ ownH 47 o) (ownV N.length o) (N.map plaV) := RdT_nk h2 h3 (fun p hp => List.mem_append_left _ (List.mem_append_right _ hp)) (fun p hp => List.mem_append_right _ hp)
 obtain ⟨q, c, hq⟩ := hT.1.len
 rw [List.length_map] at hq
 rw [hq] at hT he
 refine ⟨(N, (R ++ ndKH N) ++ ownH 47 o, q, c), ⟨h1, hT, fun e he => List.mem_append_left _ (List.mem_append_left _ he)⟩, he, ?_⟩
 rw [List.append_assoc, List.append_assoc] at hs
 rw [List.append_assoc]
 exact hs
end
theorem same_yes {ps qs : List Pt} (h : erL ps = erL qs) {N N' : List Nk} (h1 : N.map Prod.fst = fltP (.mk 1 [] [] 0 0 ps) 0) (h2 : N'.map Prod.fst = fltP (.mk 1 [] [] 0 0 qs) 0) (hl : N.length ≤ 2049) (hz : ∀ y ∈ N.map plaV, y.nd.ks.length ≤ 1000000) {R : List Ent} {v u : Value} (hv : RdT R v (N.map plaV)) (hu : RdT R u (N'.map plaV))
  ⦃M : List Nat⦄ ⦃w0 w : World⦄ ⦃H : List Ent⦄ (hst : St M w0 w H) (hR : ∀ e ∈ R, e ∈ H) : Calls Tryz.prog 16 #[.agg [v].toArray, .agg [u].toArray] w (Give (.bool true) w) := by
 have := sameT_ok hst (hv.mono hR) (hu.mono hR) (by rw [List.length_map]; omega) (fun y hy => by have := hz y hy; omega)
 rw [decide_eq_true (core_flt h h1 h2)] at this
 exact this
theorem st_two {w : World} {a g : Nat} {o o' : Obj} (h : w.heap[a]? = some o) (h' : w.heap[g]? = some o') : St [] w w [⟨a, false, o⟩, ⟨g, false, o'⟩] :=
 ⟨rfl, rfl, rfl, Nat.le_refl _, fun _ _ _ => rfl, by simp [h, h'], by simp⟩
theorem lexG_long {x : List UInt8} {T : List Tk} {e : Int} {p : Nat} (hl : x.length ≤ 9223372036854775807) (h : lexS x = (T, e, p)) (w : World) (hm : Mx w) :
  Calls Tryz.prog 14 #[st x] w (Gives (fun o : Ow => .tuple #[ownV T.length o, spotV e (p : Nat)]) (fun o => ownOk T.length 5 (tksC T) o) w (fun _ => []) (owN 67)) := by
 have := lex_ok x hl w hm
 rw [h] at this
 exact this
theorem backLawP_ok (s : List UInt8) (hl : s.length ≤ 9223372036854775807) (w : World) (hm : Mx w) (hpw : Pows w) : Calls Tryz.prog 4 #[st s] w (Give (.bool true) w) := by
 obtain ⟨arr, et, fr, m, h0, h1⟩ := mx_ent hm
 obtain ⟨g, pet, pfr, hg, hgn⟩ := PowE.of hpw
 obtain ⟨t, ht⟩ : ∃ t, s.take (min s.length 2000) = t := ⟨_, rfl⟩
 have htl : t.length ≤ 2000 ∧ t.length ≤ s.length := by rw [← ht, List.length_take]; omega
 obtain ⟨⟨T, e, p⟩, hR⟩ : ∃ R, lexS t = R := ⟨_, rfl⟩
 have lxt := lexG_of Zf7 hR
 refine give_of_W (vs := [st s]) Tryz.func4 rfl Tryz.ntmps4 (Nat.le_of_ble_eq_true rfl) (st_two h0 hg) ?_
 simp only [argL]
 by_cases he : e = 0
 case neg =>
  repeat' (first | (apply gL; first | (apply Wl.ev rfl rfl; exact Zcc) | (refine lD 5 ?_; refine wl_call0 rfl rfl has5 rfl (fun w hs => wakesP_ok w (hm.st hs Zgh)) ?_) | (refine lC 21 14 ?_; refine wl_callY rfl rfl has14 rfl (fun w hs => lxt w (hm.st hs Zgh)) ?_; intro oz hoz; simp only [ents_owN, List.cons_append, List.nil_append]) | (refine lA 4 ?_; refine wl_alloc rfl rfl (zeroT rfl) ?_; intro b4) | (refine Zgm ?_) | apply Wl.nil) | (apply gQ; first | (apply Wq.ev rfl rfl; exact Zcc)) | (apply lW; first | apply W.seq | apply W.region | apply W.skip | (refine Zbg ?_) | (refine Zz ?_ ?_ <;> (intro h; try exact Za)) | (refine Zba ?_; intro w hs)))
  all_goals first | exact ret_eq hs rfl | contradiction | exact Zy
 subst he
 obtain ⟨hts, hch, hlen⟩ := ch_of_lexS hR
 obtain ⟨F, ⟨o, l'⟩, hF⟩ := pF_total (.shad []) (T.map tiOf)
 obtain ⟨⟨e1, a1⟩, hsp⟩ : ∃ x, spotO (T.map tiOf) o l' = x := ⟨_, rfl⟩
 repeat' (first | (apply gL; first | (apply Wl.ev rfl rfl; exact Zcc) | (refine lD 5 ?_; refine wl_call0 rfl rfl has5 rfl (fun w hs => wakesP_ok w (hm.st hs Zgh)) ?_) | (refine lC 21 14 ?_; refine wl_callY rfl rfl has14 rfl (fun w hs => lxt w (hm.st hs Zgh)) ?_; intro oz hoz; simp only [ents_owN, List.cons_append, List.nil_append]) | (refine lA 4 ?_; refine wl_alloc rfl rfl (zeroT rfl) ?_; intro b4) | (refine Zgm ?_) | apply Wl.nil) | (apply gQ; first | (apply Wq.ev rfl rfl; exact Zcc)) | (apply lW; first | apply W.seq | apply W.region | apply W.skip | (refine Zbg ?_)))
 all_goals first | contradiction | skip
 have hrd0 := own_tok (H := ownH 67 oz) hoz (fun p hp => hp)
 obtain ⟨q, c, hv⟩ := hrd0.len
 rw [hv] at hrd0 ⊢
 have hrd : ∀ {w' : World} {H : List Ent}, St [] w w' H → (∀ e ∈ ownH 67 oz, e ∈ H) → RdX H (.slice q T.length c) (T.map tiOf).length (tisC (T.map tiOf)) := fun _ hm => by rw [List.length_map]; exact hrd0.mono hm
 by_cases he1 : e1 = 0
 case neg =>
  obtain ⟨hee, ha0, ha1⟩ := spot_at hR hF hsp he1
  have ha2 : a1 ≤ (s.length : Nat) := by omega
  rcases hee with rfl | rfl
  all_goals (
   repeat' (first | (apply gL; first | (apply Wl.ev rfl rfl; exact Zef) | (refine lC 29 15 ?_; refine wl_callS rfl rfl has15 rfl (fun w hs => par_err hR (L := T.map tiOf) (fun t ht => ht) (by rw [List.length_map]; exact hlen) hF hsp he1 hs (⟨arr, et, fr, false, m, Zd, h1⟩ : MxE _) (hrd hs (fun e he => by repeat (first | exact he | apply List.Mem.tail)))) ?_; intro x1 hx1; clear hx1) | (refine lA 5 ?_; refine wl_alloc rfl rfl (zeroT rfl) ?_; intro b5) | (refine Zgm ?_) | apply Wl.nil | (refine Zbr ?_)) | (apply gQ; first | (apply Wq.ev rfl rfl; exact Zef)) | (apply lW; first | apply W.seq | apply W.region | (refine Zbk ?_) | (refine Zba ?_; intro w hs)))
   all_goals first | exact ret_eq hs rfl | contradiction | exact Zy | fail)
 subst he1
 obtain ⟨ps, rfl, hp⟩ := spot_zero hsp
 obtain ⟨hw, hrg, hcnt⟩ := wt_of hR hF
 have hWH : WH (.mk 1 [] [] 0 0 (erL ps)) := .mk hw
 have hrE : rgP (.mk 1 [] [] 0 0 (erL ps)) := rgP_mk (Int.le_refl 0) Zf6 (rg_erL ps hrg)
 have htl9 := txt_len hWH hrE (by rw [cntP, cnt_erL]; omega)
 have htlx := txt_lex hWH hrE
 have hdp : ¬((hgtP (.mk 1 [] [] 0 0 ps) : Nat) : Int) > 32 := by rw [hgtP]; omega
 obtain ⟨tx, htx⟩ : ∃ x, txt (.mk 1 [] [] 0 0 (erL ps)) = x := ⟨_, rfl⟩
 have htx9 : tx.length ≤ 1000000000 := by rw [← htx]; exact htl9
 rw [htx] at htlx
 rcases htlx with ⟨q3, hR3⟩ | ⟨T2, hR2, hc2, hl2⟩
 ·have lx2 := lexG_long Zf7 hR3
  repeat' (first | (apply gL; first | (apply Wl.ev rfl rfl; exact Zda) | (refine lC 29 15 ?_; refine wl_callS rfl rfl has15 rfl Zgo ?_; rintro ⟨N2, RR, q2, c2⟩ ⟨hN2, hT2, hRR⟩; dsimp only at hN2 hT2 hRR; simp only [List.cons_append, List.nil_append]; obtain ⟨g1, g2, g3, g4, g5⟩ := good_of hw hrg hp Zf7 hN2) | (refine lA 5 ?_; refine wl_alloc rfl rfl (zeroT rfl) ?_; intro b5) | (refine Zgm ?_) | (refine lC 63 8 ?_; refine wl_callS rfl rfl has8 rfl Zg3 ?_; rintro ⟨⟩ -; rw [htx]) | (refine lC 70 9 ?_; refine wl_callS rfl rfl has9 rfl Ze8 ?_; rintro ⟨⟩ -; rw [g2]; dsimp only [errC]) | (refine lC 75 10 ?_; refine wl_callS rfl rfl has10 rfl Ze9 ?_; rintro ⟨⟩ -; rw [g2]; dsimp only [hgtC]) | (refine lC 80 14 ?_; refine wl_callY rfl rfl has14 rfl (fun w hs => lx2 w (hm.st hs Zgh)) ?_; intro oy hoy; simp only [ents_owN, List.cons_append]) | (refine lA 9 ?_; refine wl_alloc rfl rfl (zeroT rfl) ?_; intro b9) | apply Wl.nil) | (apply gQ; first | (apply Wq.ev rfl rfl; exact Zda)) | (apply lW; first | apply W.seq | apply W.region | apply W.skip | (refine Zbk ?_) | (refine Zbg ?_) | (refine Zba ?_; intro w hs)))
  all_goals first | exact ret_eq hs rfl | contradiction
 have lx2 := lexG_long Zf7 hR2
 obtain ⟨F2, ⟨o2, r2⟩, hF2⟩ := pF_total (.shad []) (T2.map tiOf)
 obtain ⟨qs, rfl, hqs⟩ := back_of hw hrg hc2 hF2
 have hp2 : hgtL qs ≤ 32 := by rw [← hgt_erL, hqs, hgt_erL]; exact hp
 obtain ⟨hw2, hrg2, hcnt2⟩ := wt_of hR2 hF2
 repeat' (first | (apply gL; first | (apply Wl.ev rfl rfl; exact Zda) | (refine lC 29 15 ?_; refine wl_callS rfl rfl has15 rfl Zgo ?_; rintro ⟨N2, RR, q2, c2⟩ ⟨hN2, hT2, hRR⟩; dsimp only at hN2 hT2 hRR; simp only [List.cons_append, List.nil_append]; obtain ⟨g1, g2, g3, g4, g5⟩ := good_of hw hrg hp Zf7 hN2) | (refine lA 5 ?_; refine wl_alloc rfl rfl (zeroT rfl) ?_; intro b5) | (refine Zgm ?_) | (refine lC 63 8 ?_; refine wl_callS rfl rfl has8 rfl Zg3 ?_; rintro ⟨⟩ -; rw [htx]) | (refine lC 70 9 ?_; refine wl_callS rfl rfl has9 rfl Ze8 ?_; rintro ⟨⟩ -; rw [g2]; dsimp only [errC]) | (refine lC 75 10 ?_; refine wl_callS rfl rfl has10 rfl Ze9 ?_; rintro ⟨⟩ -; rw [g2]; dsimp only [hgtC]) | (refine lC 80 14 ?_; refine wl_callY rfl rfl has14 rfl (fun w hs => lx2 w (hm.st hs Zgh)) ?_; intro oy hoy; simp only [ents_owN, List.cons_append]) | (refine lA 9 ?_; refine wl_alloc rfl rfl (zeroT rfl) ?_; intro b9) | apply Wl.nil) | (apply gQ; first | (apply Wq.ev rfl rfl; exact Zda)) | (apply lW; first | apply W.seq | apply W.region | apply W.skip | (refine Zbg ?_)))
 all_goals first | contradiction | skip
 have hrd3 := own_tok (H := ownH 67 oy) hoy (fun p hp => hp)
 obtain ⟨q5, c5, hv5⟩ := hrd3.len
 rw [hv5] at hrd3 ⊢
 have hrd2 : ∀ {w' : World} {H : List Ent}, St [] w w' H → (∀ e ∈ RR ++ ownH 67 oy, e ∈ H) → RdX H (.slice q5 T2.length c5) (T2.map tiOf).length (tisC (T2.map tiOf)) := fun _ hm => by rw [List.length_map]; exact hrd3.mono fun e he => hm e (List.mem_append_right _ he)
 repeat' (first | (apply gL; first | (apply Wl.ev rfl rfl; (focus (first | exact ev_eqsT rfl rfl rfl | exact Zev))) | (refine lC 91 15 ?_; refine wl_callS rfl rfl has15 rfl (fun w hs => par_tree (C := [⟨b9, true, row [.int .i64 0, .int .i64 0] 38⟩, ⟨b5, true, row [.slice q2 N2.length c2] 24⟩, ⟨b4, true, row [.int .i64 0, .int .i64 0] 38⟩, (⟨0, false, .cells arr et fr⟩ : Ent), (⟨g, false, .cells (Lib.pow10Tab.map fun z => Value.int .u64 z).toArray pet pfr⟩ : Ent)]) rfl hR2 (L := T2.map tiOf) (fun t ht => ht) (by rw [List.length_map]; exact hl2) hF2 hp2 hs (⟨arr, et, fr, false, m, Zd, h1⟩ : MxE _) (hrd2 hs (fun e he => by repeat (first | exact he | apply List.Mem.tail)))) ?_; rintro ⟨N4, R4, q4, c4⟩ ⟨hN4, hT4, hR4⟩; dsimp only at hN4 hT4 hR4; simp only [List.cons_append, List.nil_append]; obtain ⟨k1, k2, k3, k4, k5⟩ := good_of hw2 hrg2 hp2 Zf7 hN4; rw [hqs] at k3 k4; have hsm := same_yes hqs.symm hN2 hN4 g1 g5 (hT2.mono (fun e he => hR4 e (List.mem_append_left _ he))) hT4) | (refine lA 10 ?_; refine wl_alloc rfl rfl (zeroT rfl) ?_; intro b10) | (refine Zgm ?_) | (refine lC 96 8 ?_; refine wl_callS rfl rfl has8 rfl (fun w hs => Print_ok (N := N4.map plaV) k5 hs (hT4.mono (fun e he => by repeat (first | exact he | apply List.Mem.tail))) (⟨g, pet, pfr, false, hgn, Zd⟩ : PowE _) k2 k3 k4 htl9) ?_; rintro ⟨⟩ -; rw [htx]) | (refine lD 16 ?_; refine wl_call0 rfl rfl has16 rfl (fun w hs => hsm hs (fun e he => by repeat (first | exact he | apply List.Mem.tail))) ?_) | apply Wl.nil) | (apply gQ; first | (apply Wq.ev rfl rfl; (focus (first | exact ev_eqsT rfl rfl rfl | exact Zev)))) | (apply lW; first | apply W.seq | apply W.region | (refine Zba ?_; intro w hs)))
 all_goals first | exact ret_eq hs rfl | contradiction
end Go.Proofs.YtbinaeemcidicaaGreatDoor
namespace Go.Proofs.YtbinaeemcidicaaGreatDoor
open Go.PB Go.ChangeShapes Go.WideShapes Go.ChangeAt Go.RowKit
theorem own : ownKnob Tryz.prog.godebug = none := by kernel_rfl
theorem laidOut : laidOutB Tryz.prog = true := by kernel_rfl
section
variable {P : Program} {H : Type} {enc : TypeId × Value → H} {W W' : World}
theorem below_trodAll (hl : laidOutB P = true) (hb : Below W.heap.size W W') {ts : List TypeId} : ∀ {vs : List Value} {ds : List (DataW H)} {ps : List MemPlace}, (ts.all fun t => P.readableRec t && decide (t < P.types.size)) = true →
  DataW.TrodAll enc P W 0 (fun _ => true) true ts vs ds ps → (∀ x ∈ ps, x.block < W.heap.size) → DataW.TrodAll enc P W' 0 (fun b => decide (b < W.heap.size)) true ts vs ds ps := by
 induction ts with
 | nil =>
  intro vs ds ps _ h _
  obtain ⟨rfl, rfl, rfl⟩ := trodAll_nil h
  rfl
 | cons t ts ih =>
  intro vs ds ps hr h hlt
  obtain ⟨v, vs', d, ds', p, q, rfl, rfl, rfl, h1, h2⟩ := trodAll_cons h
  simp only [List.all_cons, Bool.and_eq_true, decide_eq_true_eq] at hr
  exact ⟨p, q, Below.trod hl hr.1.1 hr.1.2 h1 hb (fun x hx => hlt x (by simp [hx])), ih hr.2 h2 (fun x hx => hlt x (by simp [hx])), rfl⟩
theorem true_post (hl : laidOutB P = true) {f : Func} {s : ChangeSpec} {args : Array Value} {ds gs : List (DataW H)} {before : List MemPlace} {bt : TypeId} (hW : DataW.Whole enc P f.params.toList s.vars false W args.toList ds gs before)
  (hvars : s.vars = []) (hfn : s.fn H (ds ++ gs) = { results := [.lit (.bool true)], args := ds }) (hrt : f.resultTypes = #[bt]) (hbt : P.underlying bt = some .bool)
  (hrows : (f.params.toList.all fun t => P.readableRec t && decide (t < P.types.size)) = true) (hb : Below W.heap.size W W') : s.post enc P f false true false false W args (.bool true) W' := by
 have hW' := hW
 obtain ⟨p, q, hA, hV, rfl, hfz, hnd⟩ := hW
 rw [hvars] at hV
 obtain ⟨rfl, rfl⟩ := trodVars_none hV
 have hlt : ∀ x ∈ p, x.block < W.heap.size := fun x hx => hW'.lt x (by simp [hx])
 refine ⟨ds, [], _, [], p, [], hW', ?_, ?_, ?_, hb.frame _, fun h => by cases h⟩
 ·rw [hfn, hrt]
  exact trodAll_cons_mk (shut_bool hbt _) trodAll_mk0
 ·rw [hfn]
  exact below_trodAll hl hb hrows hA hlt
 ·rw [hfn, hvars]
  exact rfl
end
theorem open_text {H : Type} {enc : TypeId × Value → H} {W : World} {r : Reach} {b0 base : Nat} {v : Value} {d : DataW H} {ps : List MemPlace} {sp : Nat → Bool} {held : Bool} (hval : Value.okWide Tryz.prog W r b0 9 v) (hd : DataW.Trod enc Tryz.prog W base sp held 9 v d ps) :
  ∃ l : List UInt8, v = st l ∧ l.length ≤ 9223372036854775807 := by
 obtain ⟨⟨⟨l⟩⟩, rfl, _, _, h⟩ := Go.ChangeMaps.open_string Tryz.underlying9 hval hd
 exact ⟨l, rfl, by simpa [maxLen, ByteArray.size] using h⟩
theorem lifted_of {H : Type} {enc : TypeId × Value → H} {C : Checked} {os : Os} {f : FuncId} {fn : Func} {s : ChangeSpec} {conds : List PathCond} {a : Assume} {apart fresh handsOn again : Bool} {X : World → Array Value → Prop}
  (hX : ∀ (w w' : World) (args : Array Value), w.heap = w'.heap → X w args → X w' args) (hown : ownKnob C.prog.godebug = none) (started : os.Started) (hno : C.prog.inits.idxOf? f = none) (hf : C.prog.funcs[f]? = some fn)
  (hwit : ∃ (w : World) (tape : Tape) (i : Input), w.os = os ∧ (w.forCall tape i).Shaped C.prog ∧ i.vars = [] ∧ Input.okWide C.prog (w.forCall tape i) .any w.heap.size f i ∧
   ((s.pre enc C.prog fn conds apart (w.forCall tape i).memory i.args ∧ X (w.forCall tape i).memory i.args) ∧ sizedMet enc C.prog fn (OpenSpec.ofChange s) apart (w.forCall tape i).memory i.args) ∧ a.holds C.prog (lone (Frame.enter C.prog f i.args .normal) [] (w.forCall tape i)))
  (hc : ∀ (W : World) (base : Nat) (args : Array Value) (ds gs : List (DataW H)) (before : List MemPlace), (∀ (j : Nat) t v, fn.params[j]? = some t → args[j]? = some v → Value.okWide C.prog W .any base t v) →
   DataW.Whole enc C.prog fn.params.toList s.vars apart W args.toList ds gs before → (DataW.weightsEach C.prog (fn.params.toList ++ s.plain.varTypes C.prog) (ds ++ gs)).all (· ≤ reachBytes) = true → W.ShapedOpen C.prog → X W args →
   Calls C.prog f args W fun e W' => ∃ v, e = .returned v ∧ s.post enc C.prog fn apart fresh handsOn again W args v W') :
  ReturnsInHanded a C os f .any (fun w args => (s.pre enc C.prog fn conds apart w args ∧ X w args) ∧ sizedMet enc C.prog fn (OpenSpec.ofChange s) apart w args) (s.post enc C.prog fn apart fresh handsOn again) := by
 refine returnsInHanded_of_calls hown started hno hwit ?_
 intro w tape i _ hsh _ hok hpre _
 obtain ⟨_, _, _, g, hg, _, _, _, _, hval⟩ := hok
 obtain rfl : g = fn := Option.some.inj (hg.symm.trans hf)
 obtain ⟨⟨⟨ds, gs, before, hw, _⟩, hx⟩, hz⟩ := hpre
 have hcc := hc (w.forCall tape i) w.heap.size i.args ds gs before hval (DataW.Whole.of_heap (w' := w.forCall tape i) Zmi hw) (hz.weights hw) hsh (hX _ _ _ Zmi hx)
 refine hcc.mono fun e W' ⟨v, he, hp⟩ => ?_
 subst he
 exact ChangeSpec.post_blind hp
abbrev laidL : List (String × DataW Unit) := Rows.parseBackRow.laid
theorem plainL : (laidL.all fun x => x.2.handleName?.isNone) = true := by kernel_rfl
theorem powsData : (Rows.laid_internal_strconv_uint64pow10 : DataW Unit) = Lib.tabData .u64 Lib.pow10Tab := by kernel_rfl
theorem pows {W : World} (h : laidMetH Tryz.prog laidL W) : Pows W := by
 rw [MakeChecks.laidMetH_plain _ _ _ plainL] at h
 have h2 := h.tail.tail
 unfold Pows
 rw [powsData] at h2
 exact Lib.tabIs_of_head (g := 1) (t := 219) (e := 200) (n := 20) Zj Zj Tryz.underlying219 Tryz.underlying200 Zj Zj h2
end Go.Proofs.YtbinaeemcidicaaGreatDoor
