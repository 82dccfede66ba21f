/- A walk: what a token is told as, in the document's form. No condition. -/
import Derived.Test.YthhfandandfeeaaDoorDB
import Derived.Test.YthhfandandfeeaaDoorMK
namespace Go.PB
open Go.RowKit
section
variable {P : Program} {Z : Exit → Act → World → Prop} {M : List Nat} {w0 : World} {n : Nat} {D : List Deferred} {L : List (Nat × Value)} {H : List Ent} {k : List Kt}
theorem W.join2 {c1 c2 : Code} {X : Type} (Lx : X → List (Nat × Value)) (Hx : X → List Ent) (φ : X → Prop)
    (h1 : W P Z M w0 n D (.inl c1 :: .inl c2 :: .inr (.inr (.inl (Mt Lx Hx φ M w0 n D))) :: k) L H)
    (h2 : ∀ x, φ x → W P Z M w0 n D k (Lx x) (Hx x)) : W P Z M w0 n D (.inl c1 :: .inl c2 :: k) L H := by
  unfold W at h1 h2 ⊢
  intro a w hf hs
  have hj : ∀ a w, c2.wp P (kpost P Z (.inr (.inr (.inl (Mt Lx Hx φ M w0 n D))) :: k)) a w → c2.wp P (kpost P Z k) a w := fun a w h => Code.wp_mono (fun e a2 w2 hq => by
    cases e with
    | normal =>
      obtain ⟨x, x1, x2, x3⟩ := hq
      exact h2 x x1 a2 w2 x2 x3
    | exit id => exact hq
    | goto l => exact hq
    | ret => exact hq
    | panic ch => exact hq
    | outgrown => exact hq) h
  show c1.wp P (Exit.then (fun a w => c2.wp P (kpost P Z k) a w) (kpost P Z k)) a w
  refine Code.wp_mono (fun e a2 w2 hq => ?_) (h1 a w hf hs)
  cases e with
  | normal => exact hj _ _ hq
  | exit id => exact hq
  | goto l => exact hq
  | ret => exact hq
  | panic ch => exact hq
  | outgrown => exact hq
end
/-- here the walk halts -/
structure Stop (p : Prop) : Prop where
  out : p
end Go.PB
namespace Go.Proofs.YthhfandandfeeaaDoor
open Go.PB Go.RowKit
attribute [local irreducible] Go.Calls
def stC (l : List Nm) : List Value := l.map st
theorem stC_snoc (l : List Nm) (x : Nm) : stC (l ++ [x]) = stC l ++ [st x] := by simp [stC]
theorem takeN {l : List Nm} {j : Nat} (hj : j < l.length) : l.take (j + 1) = l.take j ++ [l.getD j []] := by rw [List.take_succ_eq_append_getElem hj]; simp [List.getD, hj]
theorem stC_get {l : List Nm} {j : Nat} (hj : j < l.length) : (stC l)[j]? = some (st (l.getD j [])) := by
  unfold stC
  rw [List.getElem?_map, List.getElem?_eq_getElem hj]
  simp [List.getD, hj]
/-- what the words stand for lies in what is known -/
def WOk (H : List Ent) (E : List We) : Prop := ∀ e ∈ E, RdE H e.v e.l ∧ e.l.length ≤ 2048
theorem WOk.mono {H H' : List Ent} {E : List We} (h : WOk H E) (hH : ∀ p ∈ H, p ∈ H') : WOk H' E := fun e he => ⟨(h e he).1.mono hH, (h e he).2⟩
theorem WOk.ro {H : List Ent} {E : List We} (h : WOk H E) : WOk (ro H) E := fun e he => ⟨(h e he).1.ro, (h e he).2⟩
theorem WOk.at {H : List Ent} {E : List We} {i : Nat} (h : WOk H E) (hi : i < E.length) : RdE H (E.getD i we0).v (E.getD i we0).l ∧ (E.getD i we0).l.length ≤ 2048 := by
  have : E.getD i we0 ∈ E := by
    simp only [List.getD, List.getElem?_eq_getElem hi, Option.getD_some]
    exact List.getElem_mem hi
  exact h _ this
def RpG (V : Wds) (u : Tk) (wi : List Nm) (f dn : Nat) (t : Tk) (w : World) : Ending → World → Prop :=
  Gives (fun q : PutQ => .tuple #[ownV q.x.length q.o, .int .i64 (q.d : Nat), .bool q.b]) (fun q => ownOk q.x.length 5 (tksC q.x) q.o ∧ Res (expF V u.at_ u.ln f wi dn t) 0 q) w (fun _ => []) (fun q => owN 35 q.o)
abbrev stV (E : List We) (ow : Ow) (pv ov : Value) : Value := .agg #[ownV E.length ow, pv, ov]
abbrev HB (s8 s6 s5 : Nat) (u t : Tk) (E : List We) (ow : Ow) (pv ov : Value) (R : List Ent) : List Ent :=
  ⟨s8, true, row [.int .i64 u.k, st u.t, .int .i32 u.x, .int .i64 (u.at_ : Nat), .int .i64 (u.ln : Nat)] 35⟩ :: ⟨s6, true, row [.int .i64 t.k, st t.t, .int .i32 t.x, .int .i64 (t.at_ : Nat), .int .i64 (t.ln : Nat)] 35⟩ :: ⟨s5, true, row [ownV E.length ow, pv, ov] 55⟩ :: R
set_option maxRecDepth 100000 in
set_option maxHeartbeats 16000000 in
theorem rep11_ok {E : List We} {ow : Ow} {pv ov : Value} (u : Tk) (hln : u.ln ≤ 10000) (hE : ownOk E.length 2 (wesC E) ow) (hEl : E.length ≤ 100000) :
    ∀ (f : Nat) {dn : Nat} {wi : List Nm} {wo : Ow} {t : Tk} {H : List Ent} {M : List Nat} {w0 w : World},
    St M w0 w H → OwIn H 51 ow → WOk H E → ownOk wi.length 1 (stC wi) wo → OwIn H 9 wo → 2050 ≤ f + dn → dn ≤ 2048 → wi.length ≤ dn →
    Calls Tryd.prog 27 #[stV E ow pv ov, .agg (tkC t).toArray, ownV wi.length wo, .agg (tkC u).toArray, .int .i64 (dn : Nat)] w (RpG (wV E) u wi f dn t w) := by
  obtain ⟨uk, ut, ux, ua, un⟩ := u
  dsimp only at hln
  intro f
  induction f with
  | zero => intro dn wi wo t H M w0 w _ _ _ _ _ h1 h2; omega
  | succ f ih =>
  intro dn wi wo t H M w0 w hst hin hW hw hwin hf hdn hwd
  obtain ⟨tk, tt, tx, ta, tn⟩ := t
  obtain ⟨r, hr⟩ : ∃ r, expF (wV E) ua un (f + 1) wi dn ⟨tk, tt, tx, ta, tn⟩ = r := ⟨_, rfl⟩
  unfold RpG
  dsimp only
  rw [hr]
  obtain ⟨B, hB⟩ : ∃ B, standsB (wV E) tt = B := ⟨_, rfl⟩
  have sd : ∀ {M : List Nat} {w0 w : World} {A : List Ent}, St M w0 w (A ++ ro H) → Calls Tryd.prog 38 #[stV E ow pv ov, st tt] w (Give (.bool B) w) := fun hs => by
    rw [← hB]
    exact stands11_ok tt hs hE (hin.ro.mono fun p hp => List.mem_append_right _ hp) hEl
  obtain ⟨sb, hsb⟩ : ∃ sb, (decide (tk ≠ 1) || !B) = sb := ⟨_, rfl⟩
  refine calls_of_W (vs := [stV E ow pv ov, .agg (tkC ⟨tk, tt, tx, ta, tn⟩).toArray, ownV wi.length wo, .agg (tkC ⟨uk, ut, ux, ua, un⟩).toArray, .int .i64 (dn : Nat)]) Tryd.func27 rfl Tryd.ntmps27 (Nat.le_of_ble_eq_true rfl) hst.reads ?_
  simp only [argL, tkC, Nat.zero_add, Nat.reduceAdd]
  repeat' (first | (apply gL; first | (apply Wl.ev rfl rfl; (focus (first | exact ev_move rfl | (apply gLoa; first | exact ev_load (agT rfl) rfl (by repeat (first | exact List.Mem.head _ | apply List.Mem.tail)) rfl | exact ev_loadWhole (agT rfl) (szT rfl) rfl (by repeat (first | exact List.Mem.head _ | apply List.Mem.tail)) rfl) | (apply gFie; first | exact ev_fieldAddr0 (fldT rfl) rfl) | exact ev_assign rfl | (apply gPic; first | exact ev_pickT rfl rfl | exact ev_pickF rfl rfl) | exact ev_nei rfl rfl | exact ev_notB rfl))) | ((show Wl _ _ _ _ _ _ _ (⟨some 5, .box _ _, _, _, _, _⟩ :: _) _ _); refine wl_box rfl rfl rfl rfl ?_; intro s5) | ((show Wl _ _ _ _ _ _ _ (⟨some 6, .box _ _, _, _, _, _⟩ :: _) _ _); refine wl_box rfl rfl rfl rfl ?_; intro s6) | ((show Wl _ _ _ _ _ _ _ (⟨some 8, .box _ _, _, _, _, _⟩ :: _) _ _); refine wl_box rfl rfl rfl rfl ?_; intro s8) | ((show Wl _ _ _ _ _ _ _ (⟨_, .call ⟨.value (.func 38), _, _⟩, _, _, _, _⟩ :: _) _ _); refine wl_call0 rfl rfl has38 rfl (fun w hs => sd (A := [_, _, _]) hs) ?_) | apply Wl.nil | (refine Wl.skip rfl rfl ?_) | ((fail_if_success (apply Wl.chk rfl)); refine Wl.split rfl rfl ?_ ?_ <;> (intro h; try (exfalso; first | contradiction | omega | exact h rfl | exact h ⟨rfl, rfl⟩ | (simp_all; done))))) | (apply gQ; first | (apply Wq.ev rfl rfl; (focus (first | exact ev_move rfl | (apply gLoa; first | exact ev_load (agT rfl) rfl (by repeat (first | exact List.Mem.head _ | apply List.Mem.tail)) rfl | exact ev_loadWhole (agT rfl) (szT rfl) rfl (by repeat (first | exact List.Mem.head _ | apply List.Mem.tail)) rfl) | (apply gFie; first | exact ev_fieldAddr0 (fldT rfl) rfl) | exact ev_assign rfl | (apply gPic; first | exact ev_pickT rfl rfl | exact ev_pickF rfl rfl) | exact ev_nei rfl rfl | exact ev_notB rfl)))) | ((show W _ _ _ _ _ _ _ _ _); first | apply W.seq | ((show W _ _ _ _ _ _ (.inl (.region 1 _ false) :: .inl _ :: _) _ _); refine W.joinB 13 (sb = true) ?_ ?_) | apply W.region | apply W.block))
  all_goals first | exact W.meetB rfl (by rw [← hsb]; simp_all) (by repeat (first | exact SubL.nil | refine SubL.cons rfl ?_)) (List.Sublist.refl _) | skip
  refine W.loop (X := Nat × Bool) (fun x => [(2, ownV wi.length wo), (4, .int .i64 (dn : Nat)), (5, ptr s5), (6, ptr s6), (8, ptr s8), (13, .bool x.2), (14, .int .i64 (x.1 : Nat))]) (fun _ => HB s8 s6 s5 ⟨uk, ut, ux, ua, un⟩ ⟨tk, tt, tx, ta, tn⟩ E ow pv ov (ro H)) (fun x => x.1 ≤ wi.length ∧ x.2 = (sb || (wi.take x.1).contains tt)) (fun x => wi.length - x.1) (0, decide (sb = true)) ⟨Nat.zero_le _, by simp⟩ (by repeat (first | exact SubL.nil | refine SubL.cons rfl ?_)) (List.Sublist.refl _) ?_
  rintro ⟨j, b⟩ ⟨hj, hb⟩
  dsimp only [HB] at hj hb ⊢
  by_cases hlt : j < wi.length
  · have hwin' := hwin.ro
    obtain ⟨wb, wcap, wcur, rfl, w1, w2, w3⟩ := own_some hw (by omega)
    obtain ⟨wr, hwm⟩ := hwin'
    obtain ⟨x, hx⟩ : ∃ x, wi.getD j [] = x := ⟨_, rfl⟩
    have hat : ∀ o, o = j * 1 → wcur[o]? = some (st x) := fun o ho => by
      rw [ho, Nat.mul_one, ← hx]
      exact w3 _ _ (stC_get hlt)
    have hnext : (wi.take (j + 1)).contains tt = ((wi.take j).contains tt || decide (x = tt)) := by
      rw [takeN hlt, hx]
      simp [eq_comm]
    cases b
    · repeat' (first | (apply gL; first | (apply Wl.ev rfl rfl; (focus (first | exact ev_move rfl | (apply gLoa; first | exact ev_loadAt (agT rfl) rfl (List.Mem.tail _ (List.Mem.tail _ (List.Mem.tail _ hwm))) (hat _ (by omega)) | exact ev_load (agT rfl) rfl (by repeat (first | exact List.Mem.head _ | apply List.Mem.tail)) rfl) | (apply gFie; first | exact ev_fieldAddr0 (fldT rfl) rfl) | exact ev_assign rfl | exact ev_pickF rfl rfl | (apply gBin; first | exact ev_eqs rfl rfl | exact ev_eqs rfl rfl | exact ev_lti rfl rfl | exact ev_add64 rfl rfl (by omega)) | (apply gCal; first | exact ev_len_own (slT rfl) hw rfl) | (apply gIxA; first | exact ev_indexAddr (slT rfl) (szT rfl) rfl rfl (by omega))))) | apply Wl.nil) | (apply gQ; first | (apply Wq.ev rfl rfl; (focus (first | exact ev_move rfl | (apply gLoa; first | exact ev_loadAt (agT rfl) rfl (List.Mem.tail _ (List.Mem.tail _ (List.Mem.tail _ hwm))) (hat _ (by omega)) | exact ev_load (agT rfl) rfl (by repeat (first | exact List.Mem.head _ | apply List.Mem.tail)) rfl) | (apply gFie; first | exact ev_fieldAddr0 (fldT rfl) rfl) | exact ev_assign rfl | exact ev_pickF rfl rfl | (apply gBin; first | exact ev_eqs rfl rfl | exact ev_eqs rfl rfl | exact ev_lti rfl rfl | exact ev_add64 rfl rfl (by omega)) | (apply gCal; first | exact ev_len_own (slT rfl) hw rfl) | (apply gIxA; first | exact ev_indexAddr (slT rfl) (szT rfl) rfl rfl (by omega)))))) | ((show W _ _ _ _ _ _ _ _ _); first | apply W.seq | ((show W _ _ _ _ _ _ (.inl (.region 5 _ true) :: _) _ _); refine W.regionD mixed (List.Sublist.refl _) ?_) | apply W.region | apply W.block | apply W.blk | apply W.skip | (refine W.cond rfl ?_ ?_ <;> (intro h; try (exfalso; first | contradiction | omega | exact h rfl | exact h ⟨rfl, rfl⟩ | (simp_all; done))))) | ((show Wd _ _ _ _ _ _ _ _ _ _ _ _ _); first | ((refine Wd.all (by rfl) (by decide +kernel) ?_)) | (refine Wd.done (by decide +kernel) ?_) | (refine Wd.not (by decide +kernel) ?_) | (refine Wd.skip (by kernel_rfl) rfl (by kernel_rfl) (by decide +kernel) rfl rfl (by repeat (first | exact SubH.nil | apply SubH.keep | apply SubH.drop | exact List.Sublist.refl _)) ?_) | (refine Wd.take (by kernel_rfl) rfl (by kernel_rfl) (by decide +kernel) rfl rfl (by first | exact ev_move rfl | (apply gLoa; first | exact ev_loadAt (agT rfl) rfl (List.Mem.tail _ (List.Mem.tail _ (List.Mem.tail _ hwm))) (hat _ (by omega)) | exact ev_load (agT rfl) rfl (by repeat (first | exact List.Mem.head _ | apply List.Mem.tail)) rfl) | (apply gFie; first | exact ev_fieldAddr0 (fldT rfl) rfl) | exact ev_assign rfl | exact ev_pickF rfl rfl | (apply gBin; first | exact ev_eqs rfl rfl | exact ev_eqs rfl rfl | exact ev_lti rfl rfl | exact ev_add64 rfl rfl (by omega)) | (apply gCal; first | exact ev_len_own (slT rfl) hw rfl) | (apply gIxA; first | exact ev_indexAddr (slT rfl) (szT rfl) rfl rfl (by omega))) (by repeat (first | exact SubH.nil | apply SubH.keep | apply SubH.drop | exact List.Sublist.refl _)) ?_) | (refine Wd.split (by kernel_rfl) rfl rfl rfl ?_ ?_ <;> (intro h; try (exfalso; first | contradiction | omega | exact h rfl | exact h ⟨rfl, rfl⟩ | (simp_all; done)))) | (refine Wd.splitB (by kernel_rfl) rfl rfl rfl ?_ ?_ <;> (intro h; try (exfalso; first | contradiction | omega | exact h rfl | exact h ⟨rfl, rfl⟩ | (simp_all; done)))) | apply Wd.next) | apply AllO.nil | apply AllO.cons | (refine Or.inl (by decide +kernel)) | ((show _ ∨ Wl _ _ _ _ _ _ _ _ _ _); apply Or.inr) | (refine Wl.nilD (by repeat (first | exact SubH.nil | apply SubH.keep | apply SubH.drop | exact List.Sublist.refl _)) ?_))
      all_goals exact W.again (j + 1, decide (x = tt)) ⟨hlt, by rw [hnext, ← Bool.or_assoc, ← hb, Bool.false_or]⟩ (by dsimp only; omega) (by repeat (first | exact SubL.nil | refine SubL.cons rfl ?_)) (List.Sublist.refl _)
    · repeat' (first | (apply gL; first | (apply Wl.ev rfl rfl; (focus (first | exact ev_move rfl | exact ev_assign rfl | exact ev_pickT rfl rfl | (apply gBin; first | exact ev_lti rfl rfl | exact ev_add64 rfl rfl (by omega)) | (apply gCal; first | exact ev_len_own (slT rfl) hw rfl)))) | apply Wl.nil) | (apply gQ; first | (apply Wq.ev rfl rfl; (focus (first | exact ev_move rfl | exact ev_assign rfl | exact ev_pickT rfl rfl | (apply gBin; first | exact ev_lti rfl rfl | exact ev_add64 rfl rfl (by omega)) | (apply gCal; first | exact ev_len_own (slT rfl) hw rfl))))) | ((show W _ _ _ _ _ _ _ _ _); first | apply W.seq | ((show W _ _ _ _ _ _ (.inl (.region 5 _ true) :: _) _ _); refine W.regionD mixed (List.Sublist.refl _) ?_) | apply W.region | apply W.block | apply W.blk | apply W.skip | (refine W.cond rfl ?_ ?_ <;> (intro h; try (exfalso; first | contradiction | omega | exact h rfl | exact h ⟨rfl, rfl⟩ | (simp_all; done))))) | ((show Wd _ _ _ _ _ _ _ _ _ _ _ _ _); first | ((refine Wd.all (by rfl) (by decide +kernel) ?_)) | (refine Wd.done (by decide +kernel) ?_) | (refine Wd.not (by decide +kernel) ?_) | (refine Wd.skip (by kernel_rfl) rfl (by kernel_rfl) (by decide +kernel) rfl rfl (by repeat (first | exact SubH.nil | apply SubH.keep | apply SubH.drop | exact List.Sublist.refl _)) ?_) | (refine Wd.take (by kernel_rfl) rfl (by kernel_rfl) (by decide +kernel) rfl rfl (by first | exact ev_move rfl | exact ev_assign rfl | exact ev_pickT rfl rfl | (apply gBin; first | exact ev_lti rfl rfl | exact ev_add64 rfl rfl (by omega)) | (apply gCal; first | exact ev_len_own (slT rfl) hw rfl)) (by repeat (first | exact SubH.nil | apply SubH.keep | apply SubH.drop | exact List.Sublist.refl _)) ?_) | (refine Wd.split (by kernel_rfl) rfl rfl rfl ?_ ?_ <;> (intro h; try (exfalso; first | contradiction | omega | exact h rfl | exact h ⟨rfl, rfl⟩ | (simp_all; done)))) | (refine Wd.splitB (by kernel_rfl) rfl rfl rfl ?_ ?_ <;> (intro h; try (exfalso; first | contradiction | omega | exact h rfl | exact h ⟨rfl, rfl⟩ | (simp_all; done)))) | apply Wd.next) | apply AllO.nil | apply AllO.cons | (refine Or.inl (by decide +kernel)) | ((show _ ∨ Wl _ _ _ _ _ _ _ _ _ _); apply Or.inr) | (refine Wl.nilD (by repeat (first | exact SubH.nil | apply SubH.keep | apply SubH.drop | exact List.Sublist.refl _)) ?_))
      all_goals exact W.again (j + 1, true) ⟨hlt, by rw [hnext, ← Bool.or_assoc, ← hb, Bool.true_or]⟩ (by dsimp only; omega) (by repeat (first | exact SubL.nil | refine SubL.cons rfl ?_)) (List.Sublist.refl _)
  obtain rfl : j = wi.length := by omega
  rw [List.take_length] at hb
  cases b
  case true =>
    have hs0 : tk ≠ 1 ∨ wi.contains tt = true ∨ standsB (wV E) tt = false := by
      rw [hB]
      rw [← hsb] at hb
      simp only [Bool.true_eq, Bool.or_eq_true, decide_eq_true_eq, Bool.not_eq_true'] at hb
      rcases hb with (h | h) | h
      · exact .inl h
      · exact .inr (.inr h)
      · exact .inr (.inl h)
    rw [expF_stay hs0] at hr
    repeat' (first | (apply gL; first | (apply Wl.ev rfl rfl; (focus (first | exact ev_move rfl | (apply gLoa; first | exact ev_load (agT rfl) rfl (by repeat (first | exact List.Mem.head _ | apply List.Mem.tail)) rfl | exact ev_loadWhole (agT rfl) (szT rfl) rfl (by repeat (first | exact List.Mem.head _ | apply List.Mem.tail)) rfl) | (apply gFie; first | exact ev_fieldAddr0 (fldT rfl) rfl) | exact ev_assign rfl | exact ev_lti rfl rfl | (apply gCal; first | exact ev_len_own (slT rfl) hw rfl)))) | apply Wl.nil | (refine wl_store1 rfl rfl rfl rfl (szT rfl) (by repeat (first | exact Upd.here | apply Upd.there)) (by first | decide | (simp; done)) ?_; try simp only [List.set]) | (apply wl_buildSlice rfl rfl (slT rfl) (szT rfl) (zeroT rfl) rfl (by decide) rfl; (focus (simp [fillP, List.range_succ]; rfl)); intro b)) | (apply gQ; first | (apply Wq.ev rfl rfl; (focus (first | exact ev_move rfl | (apply gLoa; first | exact ev_load (agT rfl) rfl (by repeat (first | exact List.Mem.head _ | apply List.Mem.tail)) rfl | exact ev_loadWhole (agT rfl) (szT rfl) rfl (by repeat (first | exact List.Mem.head _ | apply List.Mem.tail)) rfl) | (apply gFie; first | exact ev_fieldAddr0 (fldT rfl) rfl) | exact ev_assign rfl | exact ev_lti rfl rfl | (apply gCal; first | exact ev_len_own (slT rfl) hw rfl))))) | ((show W _ _ _ _ _ _ _ _ _); first | apply W.seq | ((show W _ _ _ _ _ _ (.inl (.region 7 _ true) :: _) _ _); refine W.regionD mixed (SubH.keep (SubH.drop (List.Sublist.refl _))) ?_) | apply W.region | (refine W.exit rfl ?_) | (refine W.condT rfl ?_) | (refine W.cond rfl ?_ ?_ <;> (intro h; try (exfalso; first | contradiction | omega | exact h rfl | exact h ⟨rfl, rfl⟩ | (simp_all; done)))) | (refine W.ret3 rfl rfl rfl rfl ?_; intro w hs)) | ((show Wd _ _ _ _ _ _ _ _ _ _ _ _ _); first | ((refine Wd.all (by rfl) (by decide +kernel) ?_)) | (refine Wd.done (by decide +kernel) ?_) | (refine Wd.not (by decide +kernel) ?_) | (refine Wd.skip (by kernel_rfl) rfl (by kernel_rfl) (by decide +kernel) rfl rfl (by repeat (first | exact SubH.nil | apply SubH.keep | apply SubH.drop | exact List.Sublist.refl _)) ?_) | (refine Wd.take (by kernel_rfl) rfl (by kernel_rfl) (by decide +kernel) rfl rfl (by first | exact ev_move rfl | (apply gLoa; first | exact ev_load (agT rfl) rfl (by repeat (first | exact List.Mem.head _ | apply List.Mem.tail)) rfl | exact ev_loadWhole (agT rfl) (szT rfl) rfl (by repeat (first | exact List.Mem.head _ | apply List.Mem.tail)) rfl) | (apply gFie; first | exact ev_fieldAddr0 (fldT rfl) rfl) | exact ev_assign rfl | exact ev_lti rfl rfl | (apply gCal; first | exact ev_len_own (slT rfl) hw rfl)) (by repeat (first | exact SubH.nil | apply SubH.keep | apply SubH.drop | exact List.Sublist.refl _)) ?_) | (refine Wd.split (by kernel_rfl) rfl rfl rfl ?_ ?_ <;> (intro h; try (exfalso; first | contradiction | omega | exact h rfl | exact h ⟨rfl, rfl⟩ | (simp_all; done)))) | (refine Wd.splitB (by kernel_rfl) rfl rfl rfl ?_ ?_ <;> (intro h; try (exfalso; first | contradiction | omega | exact h rfl | exact h ⟨rfl, rfl⟩ | (simp_all; done)))) | apply Wd.next) | apply AllO.nil | apply AllO.cons | (refine Or.inl (by decide +kernel)) | ((show _ ∨ Wl _ _ _ _ _ _ _ _ _ _); apply Or.inr) | (refine Wl.nilD (by repeat (first | exact SubH.nil | apply SubH.keep | apply SubH.drop | exact List.Sublist.refl _)) ?_))
    all_goals exact ret_new hs ⟨true, [stay ⟨tk, tt, tx, ta, tn⟩ ua un], dn, 0, some (b, 1, (tkC (stay ⟨tk, tt, tx, ta, tn⟩ ua un)).toArray)⟩ ⟨own_one5 b _, .inl ⟨rfl, hr.symm, by simp⟩⟩ rfl (by rw [ents_owN]; exact (by repeat (first | exact SubH.nil | apply SubH.keep | apply SubH.drop | exact List.Sublist.refl _)))
  have hs0 : ¬(tk ≠ 1 ∨ wi.contains tt = true ∨ standsB (wV E) tt = false) := by
    rw [hB]
    rw [← hsb] at hb
    simp only [Bool.false_eq, Bool.or_eq_false_iff, decide_eq_false_iff_not, Bool.not_eq_false'] at hb
    rintro (h | h | h)
    · exact hb.1.1 h
    · rw [hb.2] at h; cases h
    · rw [hb.1.2] at h; cases h
  by_cases hd : 2048 ≤ dn
  · rw [expF_over hs0 hd] at hr
    repeat' (first | (apply gL; first | (apply Wl.ev rfl rfl; (focus (first | exact ev_move rfl | exact ev_assign rfl | (apply gBin; first | exact ev_lti rfl rfl | exact ev_gti rfl rfl | exact ev_add64 rfl rfl (by omega)) | (apply gCal; first | exact ev_len_own (slT rfl) hw rfl)))) | apply Wl.nil) | (apply gQ; first | (apply Wq.ev rfl rfl; (focus (first | exact ev_move rfl | exact ev_assign rfl | (apply gBin; first | exact ev_lti rfl rfl | exact ev_gti rfl rfl | exact ev_add64 rfl rfl (by omega)) | (apply gCal; first | exact ev_len_own (slT rfl) hw rfl))))) | ((show W _ _ _ _ _ _ _ _ _); first | apply W.seq | apply W.region | apply W.skip | (refine W.exit rfl ?_) | (refine W.condF rfl ?_) | (refine W.cond rfl ?_ ?_ <;> (intro h; try (exfalso; first | contradiction | omega | exact h rfl | exact h ⟨rfl, rfl⟩ | (simp_all; done)))) | (refine W.ret3 rfl rfl rfl rfl ?_; intro w hs)))
    all_goals exact ret_new hs ⟨false, [], dn + 1, 0, none⟩ ⟨⟨rfl, rfl⟩, .inr ⟨rfl, .inl hr.symm⟩⟩ rfl (List.nil_sublist _)
  rw [expF_body hs0 hd] at hr
  dsimp only at hr
  rw [← runL_body (a2 := ua) (l2 := un)] at hr
  repeat' (first | (apply gL; first | (apply Wl.ev rfl rfl; (focus (first | exact ev_move rfl | exact ev_assign rfl | (apply gBin; first | exact ev_lti rfl rfl | exact ev_gti rfl rfl | exact ev_add64 rfl rfl (by omega)) | (apply gCal; first | exact ev_len_own (slT rfl) hw rfl)))) | apply Wl.nil) | (apply gQ; first | (apply Wq.ev rfl rfl; (focus (first | exact ev_move rfl | exact ev_assign rfl | (apply gBin; first | exact ev_lti rfl rfl | exact ev_gti rfl rfl | exact ev_add64 rfl rfl (by omega)) | (apply gCal; first | exact ev_len_own (slT rfl) hw rfl))))) | ((show W _ _ _ _ _ _ _ _ _); first | apply W.seq | ((show W _ _ _ _ _ _ (.inl (.region 13 _ false) :: _) _ _); refine Stop.out ?_) | apply W.region | apply W.skip | (refine W.exit rfl ?_) | (refine W.condF rfl ?_) | (refine W.cond rfl ?_ ?_ <;> (intro h; try (exfalso; first | contradiction | omega | exact h rfl | exact h ⟨rfl, rfl⟩ | (simp_all; done))))))
  refine ⟨?_⟩
  refine W.join2 (X := Value × List Ent) (fun x => [(2, ownV wi.length wo), (4, .int .i64 ((dn : Nat) + 1)), (5, ptr s5), (6, ptr s6), (8, ptr s8), (15, x.1)]) (fun x => HB s8 s6 s5 ⟨uk, ut, ux, ua, un⟩ ⟨tk, tt, tx, ta, tn⟩ E ow pv ov x.2) (fun x => RdE x.2 x.1 (bodyA (wV E) tt un ua un) ∧ SubH (ro H) x.2) ?_ ?_
  · have nb1 : ∀ w, Calls Tryd.prog 24 #[.int .i64 ((un : Nat) + 1), .agg (tkC ⟨uk, ut, ux, ua, un⟩).toArray] w (Gives (fun o : Ow => ownV 1 o) (fun o => ownOk 1 5 (tksC [numA (un + 1) ua un]) o) w (fun _ => []) (owN 35)) := fun w => number11_ok (un + 1) (by omega) (by omega) (by omega) ⟨uk, ut, ux, ua, un⟩ w
    have nb2 : ∀ w, Calls Tryd.prog 24 #[.int .i64 100, .agg (tkC ⟨uk, ut, ux, ua, un⟩).toArray] w (Gives (fun o : Ow => ownV 1 o) (fun o => ownOk 1 5 (tksC [numA 100 ua un]) o) w (fun _ => []) (owN 35)) := fun w => number11_ok 100 (by omega) (by omega) (by omega) ⟨uk, ut, ux, ua, un⟩ w
    by_cases h1 : tt = nLINE
    · rw [show bodyA (wV E) tt un ua un = [numA (un + 1) ua un] from by unfold bodyA; rw [if_pos h1]]
      subst h1
      repeat' (first | (apply gL; first | (apply Wl.ev rfl rfl; (focus (first | (apply gLoa; first | exact ev_load (agT rfl) rfl (by repeat (first | exact List.Mem.head _ | apply List.Mem.tail)) rfl | exact ev_loadWhole (agT rfl) (szT rfl) rfl (by repeat (first | exact List.Mem.head _ | apply List.Mem.tail)) rfl) | (apply gFie; first | exact ev_fieldAddr0 (fldT rfl) rfl) | exact ev_assign rfl | (apply gBin; first | exact ev_eqsT rfl rfl (by decide) | exact ev_add64 rfl rfl (by omega))))) | ((show Wl _ _ _ _ _ _ _ (⟨_, .call ⟨.value (.func 24), _, _⟩, _, _, _, _⟩ :: _) _ _); refine wl_callY rfl rfl has24 rfl (fun w _ => nb1 w) ?_; intro on hon; simp only [ents_owN, List.cons_append]) | apply Wl.nil) | (apply gQ; first | (apply Wq.ev rfl rfl; (focus (first | (apply gLoa; first | exact ev_load (agT rfl) rfl (by repeat (first | exact List.Mem.head _ | apply List.Mem.tail)) rfl | exact ev_loadWhole (agT rfl) (szT rfl) rfl (by repeat (first | exact List.Mem.head _ | apply List.Mem.tail)) rfl) | (apply gFie; first | exact ev_fieldAddr0 (fldT rfl) rfl) | exact ev_assign rfl | (apply gBin; first | exact ev_eqsT rfl rfl (by decide) | exact ev_add64 rfl rfl (by omega)))))) | ((show W _ _ _ _ _ _ _ _ _); first | apply W.region | (refine W.condT rfl ?_)))
      all_goals exact W.meet (ownV 1 on, ro H ++ ownH 35 on) ⟨RdE.own (l := [numA (un + 1) ua un]) hon fun p hp => List.mem_append_right _ hp, List.sublist_append_left _ _⟩ (by repeat (first | exact SubL.nil | refine SubL.cons rfl ?_)) (List.Sublist.refl _)
    · by_cases h2 : tt = nVER
      · rw [show bodyA (wV E) tt un ua un = [numA 100 ua un] from by unfold bodyA; rw [if_neg h1, if_pos h2]]
        subst h2
        repeat' (first | (apply gL; first | (apply Wl.ev rfl rfl; (focus (first | (apply gLoa; first | exact ev_load (agT rfl) rfl (by repeat (first | exact List.Mem.head _ | apply List.Mem.tail)) rfl | exact ev_loadWhole (agT rfl) (szT rfl) rfl (by repeat (first | exact List.Mem.head _ | apply List.Mem.tail)) rfl) | (apply gFie; first | exact ev_fieldAddr0 (fldT rfl) rfl) | exact ev_assign rfl | (apply gBin; first | exact ev_eqsT rfl rfl (by decide) | exact ev_eqsF rfl rfl (by decide))))) | ((show Wl _ _ _ _ _ _ _ (⟨_, .call ⟨.value (.func 24), _, _⟩, _, _, _, _⟩ :: _) _ _); refine wl_callY rfl rfl has24 rfl (fun w _ => nb2 w) ?_; intro on hon; simp only [ents_owN, List.cons_append]) | apply Wl.nil) | (apply gQ; first | (apply Wq.ev rfl rfl; (focus (first | (apply gLoa; first | exact ev_load (agT rfl) rfl (by repeat (first | exact List.Mem.head _ | apply List.Mem.tail)) rfl | exact ev_loadWhole (agT rfl) (szT rfl) rfl (by repeat (first | exact List.Mem.head _ | apply List.Mem.tail)) rfl) | (apply gFie; first | exact ev_fieldAddr0 (fldT rfl) rfl) | exact ev_assign rfl | (apply gBin; first | exact ev_eqsT rfl rfl (by decide) | exact ev_eqsF rfl rfl (by decide)))))) | ((show W _ _ _ _ _ _ _ _ _); first | apply W.seq | apply W.region | (refine W.condT rfl ?_) | (refine W.condF rfl ?_)))
        all_goals exact W.meet (ownV 1 on, ro H ++ ownH 35 on) ⟨RdE.own (l := [numA 100 ua un]) hon fun p hp => List.mem_append_right _ hp, List.sublist_append_left _ _⟩ (by repeat (first | exact SubL.nil | refine SubL.cons rfl ?_)) (List.Sublist.refl _)
      · have hsd : standsB (wV E) tt = true := by rw [← Bool.not_eq_false]; exact fun h => hs0 (.inr (.inr h))
        obtain ⟨i, hi⟩ : ∃ i, fidx E tt = some i := by
          cases hx : fidx E tt with
          | some i => exact ⟨i, rfl⟩
          | none =>
            unfold standsB at hsd
            rw [fidx_none hx] at hsd
            simp [h1, h2] at hsd
        obtain ⟨f1, f2, f3⟩ := fidx_some hi
        have hfv : fval E tt = (i : Nat) := by unfold fval; rw [hi]
        have fd : ∀ {M : List Nat} {w0 w : World} {A : List Ent}, St M w0 w (A ++ ro H) → Calls Tryd.prog 40 #[stV E ow pv ov, st tt] w (Give (.int .i64 (i : Nat)) w) := fun hs => by
          rw [← hfv]
          exact find_ok tt hs hE (hin.ro.mono fun p hp => List.mem_append_right _ hp) hEl
        have hWi := hW.ro.at f1
        have hin' := hin.ro
        obtain ⟨eb, ecap, ecur, rfl, e1, e2, e3⟩ := own_some hE (by omega)
        obtain ⟨wr, hem⟩ := hin'
        obtain ⟨⟨en, el, ev⟩, he⟩ : ∃ e, E.getD i we0 = e := ⟨_, rfl⟩
        rw [he] at f3 hWi
        have hat : ∀ o, o = i * 2 + 1 → ecur[o]? = some ev := fun o ho => by
          rw [ho]
          exact e3 _ _ (flat_get weC 2 (fun _ => rfl) we0 f1 (i := 1) (by rw [he]; rfl))
        rw [show bodyA (wV E) tt un ua un = el from by unfold bodyA; rw [if_neg h1, if_neg h2, f3]; rfl]
        repeat' (first | (apply gL; first | (apply Wl.ev rfl rfl; (focus (first | (apply gLoa; first | exact ev_loadAt (agT rfl) rfl (List.Mem.tail _ (List.Mem.tail _ (List.Mem.tail _ hem))) (hat _ (by omega)) | exact ev_load (agT rfl) rfl (by repeat (first | exact List.Mem.head _ | apply List.Mem.tail)) rfl | exact ev_loadWhole (agT rfl) (szT rfl) rfl (by repeat (first | exact List.Mem.head _ | apply List.Mem.tail)) rfl) | (apply gFie; first | exact ev_fieldAddr0 (fldT rfl) rfl | exact ev_fieldAddr (fldT rfl) rfl) | exact ev_assign rfl | (apply gBin; first | exact ev_eqsF rfl rfl h1 | exact ev_eqsF rfl rfl h2) | (apply gIxA; first | exact ev_indexAddr (slT rfl) (szT rfl) rfl rfl (by omega))))) | apply Wl.nil) | (apply gQ; first | (apply Wq.ev rfl rfl; (focus (first | (apply gLoa; first | exact ev_loadAt (agT rfl) rfl (List.Mem.tail _ (List.Mem.tail _ (List.Mem.tail _ hem))) (hat _ (by omega)) | exact ev_load (agT rfl) rfl (by repeat (first | exact List.Mem.head _ | apply List.Mem.tail)) rfl | exact ev_loadWhole (agT rfl) (szT rfl) rfl (by repeat (first | exact List.Mem.head _ | apply List.Mem.tail)) rfl) | (apply gFie; first | exact ev_fieldAddr0 (fldT rfl) rfl | exact ev_fieldAddr (fldT rfl) rfl) | exact ev_assign rfl | (apply gBin; first | exact ev_eqsF rfl rfl h1 | exact ev_eqsF rfl rfl h2) | (apply gIxA; first | exact ev_indexAddr (slT rfl) (szT rfl) rfl rfl (by omega))))) | ((show Wq _ _ _ _ _ _ _ (⟨_, .call ⟨.value (.func 40), _, _⟩, _, _, _, _⟩ :: _) _ _); refine Wq.call0 rfl rfl has40 rfl (fun w hs => fd (A := [_, _, _]) hs) ?_) | apply Wq.nil) | ((show W _ _ _ _ _ _ _ _ _); first | apply W.seq | (refine W.regionQ mixed (by kernel_rfl) ?_) | apply W.region | (refine W.condF rfl ?_)))
        all_goals exact W.meet (ev, ro H) ⟨hWi.1, List.Sublist.refl _⟩ (by repeat (first | exact SubL.nil | refine SubL.cons rfl ?_)) (List.Sublist.refl _)
  rintro ⟨lv, R⟩ ⟨hv, hR⟩
  dsimp only [HB] at hv hR ⊢
  obtain ⟨bl, hbl⟩ : ∃ bl, bodyA (wV E) tt un ua un = bl := ⟨_, rfl⟩
  have hbn : bl.length ≤ 2048 := by
    rw [← hbl]
    unfold bodyA
    split
    · simp
    · split
      · simp
      · cases hx : fidx E tt with
        | none => rw [fidx_none hx]; simp
        | some i =>
          obtain ⟨f1, f2, f3⟩ := fidx_some hx
          rw [f3]
          exact (hW.at f1).2
  rw [hbl] at hr hv
  repeat' (first | (apply gL; first | (apply Wl.ev rfl rfl; (focus (first | (apply gLoa; first | exact ev_load (agT rfl) rfl (by repeat (first | exact List.Mem.head _ | apply List.Mem.tail)) rfl) | (apply gFie; first | exact ev_fieldAddr0 (fldT rfl) rfl) | exact ev_assign rfl))) | apply Wl.nil | (apply wl_buildSlice rfl rfl (slT rfl) (szT rfl) (zeroT rfl) rfl (by decide) rfl; (focus (simp [fillP, List.range_succ]; rfl)); intro b)) | (apply gQ; first | (apply Wq.ev rfl rfl; (focus (first | (apply gLoa; first | exact ev_load (agT rfl) rfl (by repeat (first | exact List.Mem.head _ | apply List.Mem.tail)) rfl) | (apply gFie; first | exact ev_fieldAddr0 (fldT rfl) rfl) | exact ev_assign rfl)))) | ((show W _ _ _ _ _ _ _ _ _); first | apply W.seq | apply W.region | apply W.block))
  refine W.reH (H' := HB s8 s6 s5 ⟨uk, ut, ux, ua, un⟩ ⟨tk, tt, tx, ta, tn⟩ E ow pv ov (R ++ ownH 9 (some (b, 1, #[st tt])))) (fun w hs => hs.perm (List.perm_append_singleton _ (HB s8 s6 s5 ⟨uk, ut, ux, ua, un⟩ ⟨tk, tt, tx, ta, tn⟩ E ow pv ov R)).symm) ?_
  refine W.loop (X := Nat × Ow) (fun x => [(2, ownV wi.length wo), (4, .int .i64 ((dn : Nat) + 1)), (5, ptr s5), (8, ptr s8), (15, lv), (16, ownV (x.1 + 1) x.2), (17, .int .i64 (x.1 : Nat))]) (fun x => HB s8 s6 s5 ⟨uk, ut, ux, ua, un⟩ ⟨tk, tt, tx, ta, tn⟩ E ow pv ov (R ++ ownH 9 x.2)) (fun x => x.1 ≤ wi.length ∧ ownOk (x.1 + 1) 1 (stC (tt :: wi.take x.1)) x.2) (fun x => wi.length - x.1) (0, some (b, 1, #[st tt])) ⟨Nat.zero_le _, ⟨Nat.le_refl _, by simp [maxLen], rfl, rfl, rfl⟩⟩ (by repeat (first | exact SubL.nil | refine SubL.cons rfl ?_)) (List.Sublist.refl _) ?_
  rintro ⟨j, io⟩ ⟨hj, hio⟩
  dsimp only [HB] at hj hio ⊢
  by_cases hlt : j < wi.length
  · have hwin' := hwin.ro
    obtain ⟨wb, wcap, wcur, rfl, w1, w2, w3⟩ := own_some hw (by omega)
    obtain ⟨wr, hwm⟩ := hwin'
    obtain ⟨x, hx⟩ : ∃ x, wi.getD j [] = x := ⟨_, rfl⟩
    have hat : ∀ o, o = j * 1 → wcur[o]? = some (st x) := fun o ho => by
      rw [ho, Nat.mul_one, ← hx]
      exact w3 _ _ (stC_get hlt)
    repeat' (first | (apply gL; first | (apply Wl.ev rfl rfl; (focus (first | exact ev_move rfl | (apply gLoa; first | exact ev_loadAt (agT rfl) rfl (List.Mem.tail _ (List.Mem.tail _ (List.Mem.tail _ (List.mem_append_left _ (hR.subset hwm))))) (hat _ (by omega))) | exact ev_assign rfl | (apply gBin; first | exact ev_lti rfl rfl | exact ev_add64 rfl rfl (by omega)) | (apply gCal; first | exact ev_len_own (slT rfl) hw rfl) | (apply gIxA; first | exact ev_indexAddr (slT rfl) (szT rfl) rfl rfl (by omega))))) | (refine wl_append_own (m := j + 1) (k := 1) (o := io) (xs := stC (tt :: wi.take j)) (news := [st x]) rfl rfl (slT rfl) (szT rfl) (byT rfl) (zeroT rfl) rfl rfl rfl hio (by repeat (first | exact List.Mem.head _ | apply List.Mem.tail)) rfl (fun j v h => by simpa using h) (by simp [Value.oneCell']) (by omega) (by simp only [maxLen]; omega) (by omega) (by repeat (first | exact TailUp.app | exact TailUp.here | apply TailUp.there | apply TailUp.pre)) ?_; intro o9 ho9) | apply Wl.nil | (apply wl_buildSlice rfl rfl (slT rfl) (szT rfl) (zeroT rfl) rfl (by decide) rfl; (focus (simp [fillP, List.range_succ]; rfl)); intro b)) | (apply gQ; first | (apply Wq.ev rfl rfl; (focus (first | exact ev_move rfl | (apply gLoa; first | exact ev_loadAt (agT rfl) rfl (List.Mem.tail _ (List.Mem.tail _ (List.Mem.tail _ (List.mem_append_left _ (hR.subset hwm))))) (hat _ (by omega))) | exact ev_assign rfl | (apply gBin; first | exact ev_lti rfl rfl | exact ev_add64 rfl rfl (by omega)) | (apply gCal; first | exact ev_len_own (slT rfl) hw rfl) | (apply gIxA; first | exact ev_indexAddr (slT rfl) (szT rfl) rfl rfl (by omega)))))) | ((show W _ _ _ _ _ _ _ _ _); first | apply W.seq | apply W.region | apply W.block | apply W.blk | apply W.skip | (refine W.cond rfl ?_ ?_ <;> (intro h; try (exfalso; first | contradiction | omega | exact h rfl | exact h ⟨rfl, rfl⟩ | (simp_all; done))))))
    all_goals exact W.again (j + 1, o9) ⟨hlt, by rw [takeN hlt, hx, ← List.cons_append, stC_snoc]; exact ho9⟩ (by dsimp only; omega) (by repeat (first | exact SubL.nil | refine SubL.cons rfl ?_)) (SubH.drop (List.Sublist.refl _))
  obtain rfl : j = wi.length := by omega
  rw [List.take_length] at hio
  repeat' (first | (apply gL; first | (apply Wl.ev rfl rfl; (focus (first | exact ev_move rfl | exact ev_assign rfl | exact ev_lti rfl rfl | (apply gCal; first | exact ev_len_own (slT rfl) hw rfl)))) | apply Wl.nil) | (apply gQ; first | (apply Wq.ev rfl rfl; (focus (first | exact ev_move rfl | exact ev_assign rfl | exact ev_lti rfl rfl | (apply gCal; first | exact ev_len_own (slT rfl) hw rfl))))) | ((show W _ _ _ _ _ _ _ _ _); first | apply W.seq | apply W.region | apply W.block | (refine W.exit rfl ?_) | (refine W.cond rfl ?_ ?_ <;> (intro h; try (exfalso; first | contradiction | omega | exact h rfl | exact h ⟨rfl, rfl⟩ | (simp_all; done))))))
  obtain ⟨p, c0, rfl⟩ := hv.len
  refine W.loop (X := Nat × PutQ) (fun x => [(4, .int .i64 (x.2.d : Nat)), (5, ptr s5), (8, ptr s8), (15, .slice p bl.length c0), (16, ownV (wi.length + 1) io), (18, ownV x.2.x.length x.2.o), (19, .int .i64 (x.1 : Nat))]) (fun x => HB s8 s6 s5 ⟨uk, ut, ux, ua, un⟩ ⟨tk, tt, tx, ta, tn⟩ E ow pv ov ((R ++ ownH 9 io) ++ ownH 35 x.2.o)) (fun x => x.1 ≤ bl.length ∧ runL (expF (wV E) ua un f (tt :: wi)) (dn + 1) (bl.take x.1) = some (x.2.x, x.2.d) ∧ ownOk x.2.x.length 5 (tksC x.2.x) x.2.o ∧ x.2.x.length ≤ 2048) (fun x => bl.length - x.1) (0, ⟨true, [], dn + 1, 0, none⟩) ⟨Nat.zero_le _, rfl, ⟨rfl, rfl⟩, by simp⟩ (by repeat (first | exact SubL.nil | refine SubL.cons rfl ?_)) (SubH.keep (SubH.keep (SubH.keep (by simp only [ownH_none, List.append_nil]; exact List.Sublist.refl _)))) ?_
  rintro ⟨j, ⟨qb, qx, qd, qc, qo⟩⟩ ⟨hj, hrun, hok, hle⟩
  dsimp only [HB] at hj hrun hok hle ⊢
  by_cases hlt : j < bl.length
  · obtain ⟨b1, off, c1, arr, et, fr, wr1, he, hm, hcc, hg⟩ := hv.cons (by omega)
    cases he
    obtain ⟨⟨vk, vt, vx, va, vn⟩, hu⟩ : ∃ u, bl.getD j tk0 = u := ⟨_, rfl⟩
    have hg := hg j hlt
    have hmo := runL_mono (s := expF (wV E) ua un f (tt :: wi)) (b := 2048) (fun d u x d' h => expF_mono f (tt :: wi) d u x d' h) _ _ _ _ hrun
    rw [hu] at hg
    have rp : ∀ {M : List Nat} {w0 w : World}, St M w0 w (HB s8 s6 s5 ⟨uk, ut, ux, ua, un⟩ ⟨tk, tt, tx, ta, tn⟩ E ow pv ov ((R ++ ownH 9 io) ++ ownH 35 qo)) → Calls Tryd.prog 27 #[stV E ow pv ov, .agg (tkC ⟨vk, vt, vx, va, vn⟩).toArray, ownV (wi.length + 1) io, .agg (tkC ⟨uk, ut, ux, ua, un⟩).toArray, .int .i64 (qd : Nat)] w (RpG (wV E) ⟨uk, ut, ux, ua, un⟩ (tt :: wi) f qd ⟨vk, vt, vx, va, vn⟩ w) := fun hs => by
      have hRs : ∀ p ∈ ro H, p ∈ HB s8 s6 s5 ⟨uk, ut, ux, ua, un⟩ ⟨tk, tt, tx, ta, tn⟩ E ow pv ov ((R ++ ownH 9 io) ++ ownH 35 qo) := fun p hp => List.Mem.tail _ (List.Mem.tail _ (List.Mem.tail _ (List.mem_append_left _ (List.mem_append_left _ (hR.subset hp)))))
      exact ih (wi := tt :: wi) hs (hin.ro.mono hRs) (hW.ro.mono hRs) hio (OwIn.of fun p hp => List.Mem.tail _ (List.Mem.tail _ (List.Mem.tail _ (List.mem_append_left _ (List.mem_append_right _ hp))))) (by omega) (by omega) (by simp only [List.length_cons]; omega)
    repeat' (first | (apply gL; first | (apply Wl.ev rfl rfl; (focus (first | exact ev_move rfl | (apply gLoa; first | exact ev_loadAggAt (agT rfl) (szT rfl) rfl (List.Mem.tail _ (List.Mem.tail _ (List.Mem.tail _ (List.mem_append_left _ (List.mem_append_left _ hm))))) (fun i v h => hg i v h _ (by omega)) rfl | exact ev_loadWhole (agT rfl) (szT rfl) rfl (by repeat (first | exact List.Mem.head _ | apply List.Mem.tail)) rfl) | exact ev_assign rfl | exact ev_lti rfl rfl | exact ev_extract rfl rfl | (apply gCal; first | exact ev_len_slice (slT rfl) rfl) | (apply gIxA; first | exact ev_indexAddr (slT rfl) (szT rfl) rfl rfl (by omega))))) | ((show Wl _ _ (Qk _ _ _ _ _ _ _ _) _ _ _ _ [] _ _); refine Wl.nilD (List.sublist_append_right _ _) ?_) | ((show Wl _ _ _ _ _ _ _ (⟨_, .call ⟨.value (.func 27), _, _⟩, _, _, _, _⟩ :: _) _ _); refine wl_callX rfl rfl has27 rfl (fun w hs => rp hs) ?_; rintro ⟨qb2, qx2, qd2, qc2, qo2⟩ ⟨hok2, hres2⟩; dsimp only at hok2 hres2 ⊢; simp only [ents_owN]) | apply Wl.nil) | (apply gQ; first | (apply Wq.ev rfl rfl; (focus (first | exact ev_move rfl | (apply gLoa; first | exact ev_loadAggAt (agT rfl) (szT rfl) rfl (List.Mem.tail _ (List.Mem.tail _ (List.Mem.tail _ (List.mem_append_left _ (List.mem_append_left _ hm))))) (fun i v h => hg i v h _ (by omega)) rfl | exact ev_loadWhole (agT rfl) (szT rfl) rfl (by repeat (first | exact List.Mem.head _ | apply List.Mem.tail)) rfl) | exact ev_assign rfl | exact ev_lti rfl rfl | exact ev_extract rfl rfl | (apply gCal; first | exact ev_len_slice (slT rfl) rfl) | (apply gIxA; first | exact ev_indexAddr (slT rfl) (szT rfl) rfl rfl (by omega)))))) | ((show W _ _ _ _ _ _ _ _ _); first | apply W.seq | ((show W _ _ _ _ _ _ (.inl (.region 27 _ true) :: _) _ _); refine W.regionD mixed (List.Sublist.refl _) ?_) | ((show W _ _ _ _ _ _ (.inl (.region 28 _ false) :: _) _ _); refine Stop.out ?_) | apply W.region | apply W.block | apply W.skip | (refine W.cond rfl ?_ ?_ <;> (intro h; try (exfalso; first | contradiction | omega | exact h rfl | exact h ⟨rfl, rfl⟩ | (simp_all; done))))) | ((show Wd _ _ _ _ _ _ _ _ _ _ _ _ _); first | ((refine Wd.all (by rfl) (by decide +kernel) ?_)) | (refine Wd.done (by decide +kernel) ?_) | (refine Wd.not (by decide +kernel) ?_) | (refine Wd.skip (by kernel_rfl) rfl (by kernel_rfl) (by decide +kernel) rfl rfl (by repeat (first | exact SubH.nil | apply SubH.keep | apply SubH.drop | exact List.Sublist.refl _ | exact List.sublist_append_right _ _)) ?_) | (refine Wd.take (by kernel_rfl) rfl (by kernel_rfl) (by decide +kernel) rfl rfl (by first | exact ev_move rfl | (apply gLoa; first | exact ev_loadAggAt (agT rfl) (szT rfl) rfl (List.Mem.tail _ (List.Mem.tail _ (List.Mem.tail _ (List.mem_append_left _ (List.mem_append_left _ hm))))) (fun i v h => hg i v h _ (by omega)) rfl | exact ev_loadWhole (agT rfl) (szT rfl) rfl (by repeat (first | exact List.Mem.head _ | apply List.Mem.tail)) rfl) | exact ev_assign rfl | exact ev_lti rfl rfl | exact ev_extract rfl rfl | (apply gCal; first | exact ev_len_slice (slT rfl) rfl) | (apply gIxA; first | exact ev_indexAddr (slT rfl) (szT rfl) rfl rfl (by omega))) (by repeat (first | exact SubH.nil | apply SubH.keep | apply SubH.drop | exact List.Sublist.refl _ | exact List.sublist_append_right _ _)) ?_) | ((fail_if_success (refine Wd.chk rfl rfl ?_)); (refine Wd.split (by kernel_rfl) rfl rfl rfl ?_ ?_ <;> (intro h; try (exfalso; first | contradiction | omega | exact h rfl | exact h ⟨rfl, rfl⟩ | (simp_all; done))))) | ((fail_if_success (refine Wd.chk rfl rfl ?_)); (refine Wd.splitB (by kernel_rfl) rfl rfl rfl ?_ ?_ <;> (intro h; try (exfalso; first | contradiction | omega | exact h rfl | exact h ⟨rfl, rfl⟩ | (simp_all; done))))) | apply Wd.next) | apply AllO.nil | apply AllO.cons | (refine Or.inl (by decide +kernel)) | ((show _ ∨ Wl _ _ _ _ _ _ _ _ _ _); apply Or.inr) | (refine Wl.nilD (by repeat (first | exact SubH.nil | apply SubH.keep | apply SubH.drop | exact List.Sublist.refl _ | exact List.sublist_append_right _ _)) ?_))
    refine ⟨?_⟩
    rcases hres2 with ⟨rfl, hr2, hl2⟩ | ⟨rfl, hbad⟩
    · dsimp only at hl2
      by_cases hov : 2048 < qx.length + qx2.length
      · repeat' (first | (apply gL; first | (apply Wl.ev rfl rfl; (focus (first | exact ev_move rfl | exact ev_assign rfl | exact ev_pickF rfl rfl | (apply gBin; first | exact ev_gti rfl rfl | exact ev_add64 rfl rfl (by omega)) | exact ev_notT rfl | (apply gCal; first | exact ev_len_own (slT rfl) hok rfl | exact ev_len_own (slT rfl) hok2 rfl)))) | apply Wl.nil) | (apply gQ; first | (apply Wq.ev rfl rfl; (focus (first | exact ev_move rfl | exact ev_assign rfl | exact ev_pickF rfl rfl | (apply gBin; first | exact ev_gti rfl rfl | exact ev_add64 rfl rfl (by omega)) | exact ev_notT rfl | (apply gCal; first | exact ev_len_own (slT rfl) hok rfl | exact ev_len_own (slT rfl) hok2 rfl))))) | ((show W _ _ _ _ _ _ _ _ _); first | apply W.seq | apply W.region | (refine W.cond rfl ?_ ?_ <;> (intro h; try (exfalso; first | contradiction | omega | exact h rfl | exact h ⟨rfl, rfl⟩ | (simp_all; done)))) | (refine W.ret3 rfl rfl rfl rfl ?_; intro w hs)))
        all_goals exact ret_new hs ⟨false, [], qd2, 0, none⟩ ⟨⟨rfl, rfl⟩, .inr ⟨rfl, res_fail hlt hrun hr (by rw [hu]; exact .inr ⟨qx2, qd2, hr2, by omega⟩)⟩⟩ rfl (List.nil_sublist _)
      · repeat' (first | (apply gL; first | (apply Wl.ev rfl rfl; (focus (first | exact ev_move rfl | exact ev_assign rfl | exact ev_pickF rfl rfl | (apply gBin; first | exact ev_gti rfl rfl | exact ev_add64 rfl rfl (by omega)) | exact ev_notT rfl | (apply gCal; first | exact ev_len_own (slT rfl) hok rfl | exact ev_len_own (slT rfl) hok2 rfl)))) | apply Wl.nil) | (apply gQ; first | (apply Wq.ev rfl rfl; (focus (first | exact ev_move rfl | exact ev_assign rfl | exact ev_pickF rfl rfl | (apply gBin; first | exact ev_gti rfl rfl | exact ev_add64 rfl rfl (by omega)) | exact ev_notT rfl | (apply gCal; first | exact ev_len_own (slT rfl) hok rfl | exact ev_len_own (slT rfl) hok2 rfl))))) | ((show W _ _ _ _ _ _ _ _ _); first | apply W.seq | apply W.region | apply W.block | apply W.skip | (refine W.cond rfl ?_ ?_ <;> (intro h; try (exfalso; first | contradiction | omega | exact h rfl | exact h ⟨rfl, rfl⟩ | (simp_all; done))))))
        refine W.loop (X := Nat × Ow) (fun x => [(4, .int .i64 (qd2 : Nat)), (5, ptr s5), (8, ptr s8), (15, .slice (some ⟨b1, off, none⟩) bl.length c0), (16, ownV (wi.length + 1) io), (18, ownV (qx.length + x.1) x.2), (19, .int .i64 (j : Nat)), (20, ownV qx2.length qo2), (23, .int .i64 (x.1 : Nat))]) (fun x => ownH 35 qo2 ++ HB s8 s6 s5 ⟨uk, ut, ux, ua, un⟩ ⟨tk, tt, tx, ta, tn⟩ E ow pv ov ((R ++ ownH 9 io) ++ ownH 35 x.2)) (fun x => x.1 ≤ qx2.length ∧ ownOk (qx.length + x.1) 5 (tksC (qx ++ qx2.take x.1)) x.2) (fun x => qx2.length - x.1) (0, qo) ⟨Nat.zero_le _, by simpa using hok⟩ (by repeat (first | exact SubL.nil | refine SubL.cons rfl ?_)) (List.Sublist.refl _) ?_
        rintro ⟨m, o2⟩ ⟨hm2, ho2⟩
        dsimp only [HB] at hm2 ho2 ⊢
        by_cases hlt2 : m < qx2.length
        · obtain ⟨xb, xcap, xcur, rfl, x1, x2, x3⟩ := own_some hok2 (by omega)
          obtain ⟨⟨yk, yt, yx, ya, yn⟩, hy⟩ : ∃ u, qx2.getD m tk0 = u := ⟨_, rfl⟩
          have hgy : ∀ (f : Nat) v, ([.int .i64 yk, st yt, .int .i32 yx, .int .i64 (ya : Nat), .int .i64 (yn : Nat)] : List Value)[f]? = some v → ∀ o, o = m * 5 + f → xcur[o]? = some v := fun f v h o ho => by
            rw [ho]
            exact x3 _ _ (tksC_get hlt2 (by rw [hy]; exact h))
          simp only [ownH_some, ownV_some, List.cons_append, List.nil_append]
          repeat' (first | (apply gL; first | (apply Wl.ev rfl rfl; (focus (first | exact ev_move rfl | (apply gLoa; first | exact ev_loadAggAt (agT rfl) (szT rfl) rfl (by repeat (first | exact List.Mem.head _ | apply List.Mem.tail)) (fun i v h => hgy i v h _ (by omega)) rfl) | exact ev_assign rfl | (apply gBin; first | exact ev_lti rfl rfl | exact ev_add64 rfl rfl (by omega)) | (apply gCal; first | exact ev_len_slice (slT rfl) rfl) | (apply gIxA; first | exact ev_indexAddr (slT rfl) (szT rfl) rfl rfl (by omega))))) | (refine wl_append_own (m := qx.length + m) (k := 1) (o := o2) (xs := tksC (qx ++ qx2.take m)) (news := [.int .i64 yk, st yt, .int .i32 yx, .int .i64 (ya : Nat), .int .i64 (yn : Nat)]) rfl rfl (slT rfl) (szT rfl) (byT rfl) (zeroT rfl) rfl rfl rfl ho2 (by repeat (first | exact List.Mem.head _ | apply List.Mem.tail)) rfl (fun j v h => by simpa using h) (by simp [Value.oneCell']) (by omega) (by simp only [maxLen]; omega) (by omega) (by repeat (first | exact TailUp.app | exact TailUp.here | apply TailUp.there | apply TailUp.pre)) ?_; intro o9 ho9) | apply Wl.nil | (apply wl_buildSlice rfl rfl (slT rfl) (szT rfl) (zeroT rfl) rfl (by decide) rfl; (focus (simp [fillP, List.range_succ]; rfl)); intro b)) | (apply gQ; first | (apply Wq.ev rfl rfl; (focus (first | exact ev_move rfl | (apply gLoa; first | exact ev_loadAggAt (agT rfl) (szT rfl) rfl (by repeat (first | exact List.Mem.head _ | apply List.Mem.tail)) (fun i v h => hgy i v h _ (by omega)) rfl) | exact ev_assign rfl | (apply gBin; first | exact ev_lti rfl rfl | exact ev_add64 rfl rfl (by omega)) | (apply gCal; first | exact ev_len_slice (slT rfl) rfl) | (apply gIxA; first | exact ev_indexAddr (slT rfl) (szT rfl) rfl rfl (by omega)))))) | ((show W _ _ _ _ _ _ _ _ _); first | apply W.seq | apply W.region | apply W.block | apply W.blk | apply W.skip | (refine W.cond rfl ?_ ?_ <;> (intro h; try (exfalso; first | contradiction | omega | exact h rfl | exact h ⟨rfl, rfl⟩ | (simp_all; done))))))
          all_goals exact W.again (m + 1, o9) ⟨hlt2, by
            have := ho9
            rw [takeD hlt2, hy, ← List.append_assoc]
            simpa [tksC, tkC, Nat.add_assoc] using this⟩ (by dsimp only; omega) (by repeat (first | exact SubL.nil | refine SubL.cons rfl ?_)) (SubH.drop (List.Sublist.refl _))
        · obtain rfl : m = qx2.length := by omega
          rw [List.take_length] at ho2
          repeat' (first | (apply gL; first | (apply Wl.ev rfl rfl; (focus (first | exact ev_move rfl | exact ev_assign rfl | (apply gBin; first | exact ev_lti rfl rfl | exact ev_add64 rfl rfl (by omega)) | (apply gCal; first | exact ev_len_own (slT rfl) hok2 rfl)))) | apply Wl.nil) | (apply gQ; first | (apply Wq.ev rfl rfl; (focus (first | exact ev_move rfl | exact ev_assign rfl | (apply gBin; first | exact ev_lti rfl rfl | exact ev_add64 rfl rfl (by omega)) | (apply gCal; first | exact ev_len_own (slT rfl) hok2 rfl))))) | ((show W _ _ _ _ _ _ _ _ _); first | apply W.seq | apply W.region | apply W.blk | (refine W.exit rfl ?_) | (refine W.cond rfl ?_ ?_ <;> (intro h; try (exfalso; first | contradiction | omega | exact h rfl | exact h ⟨rfl, rfl⟩ | (simp_all; done))))))
          rw [show qx.length + qx2.length = (qx ++ qx2).length from List.length_append.symm] at ho2 ⊢
          exact W.again (j + 1, ⟨true, qx ++ qx2, qd2, 0, o2⟩) ⟨hlt, (runL_snoc hlt hrun).trans (by rw [hu, hr2]), ho2, by dsimp only; rw [List.length_append]; omega⟩ (by dsimp only; omega) (by repeat (first | exact SubL.nil | refine SubL.cons rfl ?_)) (List.sublist_append_right _ _)
    · repeat' (first | (apply gL; first | (apply Wl.ev rfl rfl; (focus (first | exact ev_move rfl | exact ev_assign rfl | exact ev_pickT rfl rfl | exact ev_notF rfl))) | apply Wl.nil | (refine Wl.skip rfl rfl ?_)) | (apply gQ; first | (apply Wq.ev rfl rfl; (focus (first | exact ev_move rfl | exact ev_assign rfl | exact ev_pickT rfl rfl | exact ev_notF rfl)))) | ((show W _ _ _ _ _ _ _ _ _); first | apply W.seq | apply W.region | (refine W.condT rfl ?_) | (refine W.ret3 rfl rfl rfl rfl ?_; intro w hs)))
      all_goals exact ret_new hs ⟨false, [], qd2, 0, none⟩ ⟨⟨rfl, rfl⟩, .inr ⟨rfl, res_fail hlt hrun hr (by
        rw [hu]
        rcases hbad with h | ⟨x, d, h, hx⟩
        · exact .inl h
        · exact .inr ⟨x, d, h, by omega⟩)⟩⟩ rfl (List.nil_sublist _)
  · obtain rfl : j = bl.length := by omega
    rw [List.take_length] at hrun
    repeat' (first | (apply gL; first | (apply Wl.ev rfl rfl; (focus (first | exact ev_move rfl | exact ev_assign rfl | exact ev_lti rfl rfl | (apply gCal; first | exact ev_len_slice (slT rfl) rfl)))) | apply Wl.nil) | (apply gQ; first | (apply Wq.ev rfl rfl; (focus (first | exact ev_move rfl | exact ev_assign rfl | exact ev_lti rfl rfl | (apply gCal; first | exact ev_len_slice (slT rfl) rfl))))) | ((show W _ _ _ _ _ _ _ _ _); first | apply W.seq | apply W.region | (refine W.exit rfl ?_) | (refine W.cond rfl ?_ ?_ <;> (intro h; try (exfalso; first | contradiction | omega | exact h rfl | exact h ⟨rfl, rfl⟩ | (simp_all; done)))) | (refine W.ret3 rfl rfl rfl rfl ?_; intro w hs)))
    all_goals exact ret_new hs ⟨true, qx, qd, 0, qo⟩ ⟨hok, .inl ⟨rfl, by rw [← hr, hrun], by dsimp only; omega⟩⟩ rfl (by rw [ents_owN]; exact SubH.drop (SubH.drop (SubH.drop (List.sublist_append_right _ _))))
end Go.Proofs.YthhfandandfeeaaDoor
