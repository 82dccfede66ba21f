/- Walks: the document's digits, bytes, numbers, parts. No condition. -/
import Derived.Test.YtdnicbbandbdbaaDoorY1
import Derived.Test.YtdnicbbandbdbaaDoorT2
namespace Go.Proofs.YtdnicbbandbdbaaDoor
open Go.PB Go.RowKit
attribute [local irreducible] Go.Calls
theorem ite_iff {α : Type} {p q : Prop} [Decidable p] [Decidable q] {x y : α} (h : p ↔ q) : (if p then x else y) = if q then x else y := by
  by_cases hq : q
  · rw [if_pos hq, if_pos (h.2 hq)]
  · rw [if_neg hq, if_neg (fun e => hq (h.1 e))]
def hfV (c : UInt8) : Int := match halfS c with
  | none => -1
  | some n => (n : Nat)
theorem half28_ok (c : UInt8) (w : World) : Calls Tryd.prog 80 #[by8 c] w (Give (.int .i64 (hfV c)) w) := by
  refine give_of_W (vs := [by8 c]) Tryd.func80 rfl Tryd.ntmps80 (Nat.le_of_ble_eq_true rfl) (St.nil w _) ?_
  simp only [argL]
  have hc := c.toNat_lt
  by_cases h1 : 48 ≤ c.toNat ∧ c.toNat ≤ 57
  · have e : hfV c = (c.toNat : Int) - 48 := by unfold hfV halfS; rw [if_pos h1]; dsimp only; omega
    rw [e]
    repeat' (first | (apply gL; first | (apply Wl.ev rfl rfl; (focus (first | exact ev_move rfl | exact ev_assign rfl | exact ev_pickT rfl rfl | (apply gBin; first | exact ev_subK rfl rfl (IntWalk.u8_in _ (by omega)) | exact ev_lei rfl rfl | exact ev_gei rfl rfl) | (apply gCon; first | exact ev_convK (dT rfl) (intT rfl) rfl (wrap64_in (by omega)))))) | apply Wl.nil | ((fail_if_success (apply Wl.chk rfl)); refine Wl.split rfl rfl ?_ ?_ <;> (intro h; try (exfalso; first | contradiction | omega | exact h rfl | exact h ⟨rfl, rfl⟩ | (exact Bool.false_ne_true ((by assumption : _ = false).symm.trans h)) | (exact Bool.false_ne_true (h.symm.trans (by assumption))))))) | (apply gQ; first | (apply Wq.ev rfl rfl; (focus (first | exact ev_move rfl | exact ev_assign rfl | exact ev_pickT rfl rfl | (apply gBin; first | exact ev_subK rfl rfl (IntWalk.u8_in _ (by omega)) | exact ev_lei rfl rfl | exact ev_gei rfl rfl) | (apply gCon; first | exact ev_convK (dT rfl) (intT rfl) rfl (wrap64_in (by omega))))))) | ((show W _ _ _ _ _ _ _ _ _); first | apply W.seq | apply W.region | apply W.block | (refine W.cond rfl ?_ ?_ <;> (intro h; try (exfalso; first | contradiction | omega | exact h rfl | exact h ⟨rfl, rfl⟩ | (exact Bool.false_ne_true ((by assumption : _ = false).symm.trans h)) | (exact Bool.false_ne_true (h.symm.trans (by assumption)))))) | (refine W.ret1 rfl rfl ?_; intro w hs)))
    all_goals first | exact ret_eq hs rfl | (exfalso; omega) | fail
  · by_cases h2 : 97 ≤ c.toNat ∧ c.toNat ≤ 102
    · have e : hfV c = (c.toNat : Int) - 97 + 10 := by unfold hfV halfS; rw [if_neg h1, if_pos h2]; dsimp only; omega
      rw [e]
      repeat' (first | (apply gL; first | (apply Wl.ev rfl rfl; (focus (first | exact ev_move rfl | exact ev_assign rfl | exact ev_pickT rfl rfl | (apply gBin; first | exact ev_subK rfl rfl (IntWalk.u8_in _ (by omega)) | exact ev_lei rfl rfl | exact ev_gei rfl rfl | exact ev_add64 rfl rfl (by omega)) | (apply gCon; first | exact ev_convK (dT rfl) (intT rfl) rfl (wrap64_in (by omega)))))) | apply Wl.nil | ((fail_if_success (apply Wl.chk rfl)); refine Wl.split rfl rfl ?_ ?_ <;> (intro h; try (exfalso; first | contradiction | omega | exact h rfl | exact h ⟨rfl, rfl⟩ | (exact Bool.false_ne_true ((by assumption : _ = false).symm.trans h)) | (exact Bool.false_ne_true (h.symm.trans (by assumption))))))) | (apply gQ; first | (apply Wq.ev rfl rfl; (focus (first | exact ev_move rfl | exact ev_assign rfl | exact ev_pickT rfl rfl | (apply gBin; first | exact ev_subK rfl rfl (IntWalk.u8_in _ (by omega)) | exact ev_lei rfl rfl | exact ev_gei rfl rfl | exact ev_add64 rfl rfl (by omega)) | (apply gCon; first | exact ev_convK (dT rfl) (intT rfl) rfl (wrap64_in (by omega))))))) | ((show W _ _ _ _ _ _ _ _ _); first | apply W.seq | apply W.region | apply W.block | (refine W.cond rfl ?_ ?_ <;> (intro h; try (exfalso; first | contradiction | omega | exact h rfl | exact h ⟨rfl, rfl⟩ | (exact Bool.false_ne_true ((by assumption : _ = false).symm.trans h)) | (exact Bool.false_ne_true (h.symm.trans (by assumption)))))) | (refine W.ret1 rfl rfl ?_; intro w hs)))
      all_goals first | exact ret_eq hs rfl | (exfalso; omega) | fail
    · have e : hfV c = -1 := by unfold hfV halfS; rw [if_neg h1, if_neg h2]
      rw [e]
      repeat' (first | (apply gL; first | (apply Wl.ev rfl rfl; (focus (first | exact ev_move rfl | exact ev_assign rfl | (apply gPic; first | exact ev_pickT rfl rfl | exact ev_pickF rfl rfl) | (apply gBin; first | exact ev_lei rfl rfl | exact ev_gei rfl rfl)))) | apply Wl.nil | (refine Wl.skip rfl rfl ?_) | ((fail_if_success (apply Wl.chk rfl)); refine Wl.split rfl rfl ?_ ?_ <;> (intro h; try (exfalso; first | contradiction | omega | exact h rfl | exact h ⟨rfl, rfl⟩ | (exact Bool.false_ne_true ((by assumption : _ = false).symm.trans h)) | (exact Bool.false_ne_true (h.symm.trans (by assumption))))))) | (apply gQ; first | (apply Wq.ev rfl rfl; (focus (first | exact ev_move rfl | exact ev_assign rfl | (apply gPic; first | exact ev_pickT rfl rfl | exact ev_pickF rfl rfl) | (apply gBin; first | exact ev_lei rfl rfl | exact ev_gei rfl rfl))))) | ((show W _ _ _ _ _ _ _ _ _); first | apply W.seq | apply W.region | apply W.block | apply W.blk | apply W.skip | (refine W.condF rfl ?_) | (refine W.cond rfl ?_ ?_ <;> (intro h; try (exfalso; first | contradiction | omega | exact h rfl | exact h ⟨rfl, rfl⟩ | (exact Bool.false_ne_true ((by assumption : _ = false).symm.trans h)) | (exact Bool.false_ne_true (h.symm.trans (by assumption)))))) | (refine W.ret1 rfl rfl ?_; intro w hs)))
      all_goals first | exact ret_eq hs rfl | (exfalso; omega) | fail
theorem half_lt {c : UInt8} {n : Nat} (h : halfS c = some n) : n < 16 := (half_iff.1 h).1
theorem unhexS_cons (a b : UInt8) (t : List UInt8) : unhexS (a :: b :: t) = match pairS a b with
    | none => none
    | some x => (unhexS t).map (x :: ·) := by
  rw [unhexS]
  rfl
theorem unhexS_odd : ∀ (s : List UInt8), s.length % 2 = 1 → unhexS s = none
  | [], h => by simp at h
  | [a], _ => by rw [unhexS]
  | a :: b :: t, h => by
    rw [unhexS]
    simp only [List.length_cons] at h
    rw [unhexS_odd t (by omega)]
    cases pairS a b <;> rfl
theorem bytsS_eq (s : List UInt8) (h : s ≠ []) : bytsS s = unhexS s := by
  unfold bytsS
  by_cases h2 : s.length % 2 = 1
  · rw [if_pos (.inr h2), unhexS_odd s h2]
  · rw [if_neg (by rintro (e | e); exact h e; exact h2 e)]
def bytR (s : List UInt8) (w : World) : Ending → World → Prop := Gives (fun q : List UInt8 × Ow => .tuple #[ownV q.1.length q.2, .bool (bytsS s).isSome]) (fun q => ownOk q.1.length 1 (bytV q.1) q.2 ∧ q.1.length ≤ s.length ∧ ∀ t, bytsS s = some t → q.1 = t) w (fun _ => []) (fun q => owN 5 q.2)
theorem byt_no {w0 w : World} {H : List Ent} {s : List UInt8} (hs : St [] w0 w H) (h : bytsS s = none) : bytR s w0 (.returned (.tuple #[.slice none 0 0, .bool false])) w :=
  ret_new hs ([], none) ⟨⟨rfl, rfl⟩, Nat.zero_le _, fun t ht => by rw [h] at ht; cases ht⟩ (by rw [h]; rfl) SubH.nil
theorem byt_fin {w0 w : World} {H : List Ent} {s l : List UInt8} {n : Nat} {o : Ow} {b : Bool} (hs : St [] w0 w H) (hn : n = l.length) (ho : ownOk n 1 (bytV l) o) (hl : n ≤ s.length) (h : ∀ t, bytsS s = some t → l = t) (hb : b = (bytsS s).isSome) (hh : SubH (ownH 5 o) H) : bytR s w0 (.returned (.tuple #[ownV n o, .bool b])) w := by
  subst hn hb
  exact ret_new hs (l, o) ⟨ho, hl, h⟩ rfl (by rw [ents_owN]; exact hh)
set_option maxRecDepth 100000 in
set_option maxHeartbeats 4000000 in
theorem unhex28_ok (s : List UInt8) (hsl : s.length ≤ 1000000) (w : World) : Calls Tryd.prog 69 #[st s] w (bytR s w) := by
  refine calls_of_W (vs := [st s]) Tryd.func69 rfl Tryd.ntmps69 (Nat.le_of_ble_eq_true rfl) (St.nil w []) ?_
  simp only [argL]
  by_cases h0 : s = []
  · have hb : bytsS s = none := by subst h0; rfl
    subst h0
    repeat' (first | (apply gL; first | (apply Wl.ev rfl rfl; (focus (first | exact ev_move rfl | exact ev_assign rfl | exact ev_pickF rfl rfl | (apply gBin; first | exact ev_lti rfl rfl | exact ev_gti rfl rfl | exact ev_add64 rfl rfl (by omega)) | (apply gCal; first | exact ev_len_string (strT rfl) rfl)))) | apply Wl.nil | (refine Wl.skip rfl rfl ?_)) | (apply gQ; first | (apply Wq.ev rfl rfl; (focus (first | exact ev_move rfl | exact ev_assign rfl | exact ev_pickF rfl rfl | (apply gBin; first | exact ev_lti rfl rfl | exact ev_gti rfl rfl | exact ev_add64 rfl rfl (by omega)) | (apply gCal; first | exact ev_len_string (strT rfl) rfl))))) | ((show W _ _ _ _ _ _ _ _ _); first | apply W.seq | (refine W.rounds 1 ?_) | apply W.round | apply W.region | apply W.block | (refine W.exit rfl ?_) | (refine W.condF rfl ?_) | (refine W.ret2 rfl rfl rfl ?_; intro w hs)))
    all_goals first
      | exact byt_no hs hb
      | contradiction
      | (exfalso; omega)
      | (exfalso; simp at *; done)
      | fail
  have hse := bytsS_eq s h0
  have hs0 := List.length_pos_iff.2 h0
  repeat' (first | (apply gL; first | (apply Wl.ev rfl rfl; (focus (first | exact ev_assign rfl))) | apply Wl.nil) | (apply gQ; first | (apply Wq.ev rfl rfl; (focus (first | exact ev_assign rfl)))) | ((show W _ _ _ _ _ _ _ _ _); first | apply W.seq | (refine W.loop (X := List UInt8 × Ow) (fun x => [(0, st s), (4, ownV x.1.length x.2), (5, .int .i64 (2 * x.1.length : Nat))]) (fun x => ownH 5 x.2) (fun x => 2 * x.1.length ≤ s.length ∧ ownOk x.1.length 1 (bytV x.1) x.2 ∧ unhexS s = (unhexS (s.drop (2 * x.1.length))).map (x.1 ++ ·)) (fun x => s.length - 2 * x.1.length) ([], none) ⟨by simp, ⟨rfl, rfl⟩, by simp⟩ (by repeat (first | exact SubL.nil | refine SubL.cons rfl ?_)) (List.Sublist.refl _) ?_) | apply W.region | apply W.block))
  rintro ⟨l, o⟩ ⟨hl, hok, hun⟩
  dsimp only at hl hok hun ⊢
  by_cases hlt : 2 * l.length + 1 < s.length
  · have ed : s.drop (2 * l.length) = s.getD (2 * l.length) 0 :: s.getD (2 * l.length + 1) 0 :: s.drop (2 * l.length + 2) := by rw [drop_cons (d := 0) (by omega), drop_cons (d := 0) hlt]
    obtain ⟨a, ea⟩ : ∃ a, s.getD (2 * l.length) 0 = a := ⟨_, rfl⟩
    obtain ⟨b, eb⟩ : ∃ b, s.getD (2 * l.length + 1) 0 = b := ⟨_, rfl⟩
    rw [ed, ea, eb, unhexS_cons] at hun
    have ha : ∀ w, Calls Tryd.prog 80 #[by8 a] w (Give (.int .i64 (hfV a)) w) := half28_ok a
    have hb : ∀ w, Calls Tryd.prog 80 #[by8 b] w (Give (.int .i64 (hfV b)) w) := half28_ok b
    unfold hfV at ha hb
    unfold pairS at hun
    cases hxa : halfS a with
    | none =>
      rw [hxa] at ha hun
      have hno : bytsS s = none := by rw [hse, hun]; rfl
      dsimp only at ha
      repeat' (first | (apply gL; first | (apply Wl.ev rfl rfl; (focus (first | exact ev_move rfl | exact ev_assign rfl | exact ev_pickT rfl rfl | (apply gBin; first | exact ev_lti rfl rfl | exact ev_add64 rfl rfl (by omega)) | (apply gCal; first | exact ev_len_string (strT rfl) rfl) | (apply gIdx; first | exact (ev_index_string (strT rfl) rfl rfl (by omega)).to (show _ = by8 a from by rw [← ea]; rfl))))) | ((show Wl _ _ _ _ _ _ _ (⟨_, .call ⟨.value (.func 80), _, _⟩, _, _, _, _⟩ :: _) _ _); refine wl_call0 rfl rfl has80 rfl (fun w hs => by first | exact ha w | exact hb w) ?_) | apply Wl.nil | (refine Wl.skip rfl rfl ?_)) | (apply gQ; first | (apply Wq.ev rfl rfl; (focus (first | exact ev_move rfl | exact ev_assign rfl | exact ev_pickT rfl rfl | (apply gBin; first | exact ev_lti rfl rfl | exact ev_add64 rfl rfl (by omega)) | (apply gCal; first | exact ev_len_string (strT rfl) rfl) | (apply gIdx; first | exact (ev_index_string (strT rfl) rfl rfl (by omega)).to (show _ = by8 a from by rw [← ea]; rfl)))))) | ((show W _ _ _ _ _ _ _ _ _); first | apply W.seq | apply W.region | apply W.block | apply W.skip | (refine W.condT rfl ?_) | (refine W.cond rfl ?_ ?_ <;> (intro h; try (exfalso; first | contradiction | omega | exact h rfl | exact h ⟨rfl, rfl⟩ | (exact Bool.false_ne_true ((by assumption : _ = false).symm.trans h)) | (exact Bool.false_ne_true (h.symm.trans (by assumption)))))) | (refine W.ret2 rfl rfl rfl ?_; intro w hs)))
      all_goals first | exact byt_no hs hno | (exfalso; omega) | fail
    | some x =>
      cases hxb : halfS b with
      | none =>
        rw [hxa] at ha hun
        rw [hxb] at hb hun
        have hno : bytsS s = none := by rw [hse, hun]; rfl
        dsimp only at ha hb
        repeat' (first | (apply gL; first | (apply Wl.ev rfl rfl; (focus (first | exact ev_move rfl | exact ev_assign rfl | exact ev_pickF rfl rfl | (apply gBin; first | exact ev_lti rfl rfl | exact ev_add64 rfl rfl (by omega)) | (apply gCal; first | exact ev_len_string (strT rfl) rfl) | (apply gIdx; first | exact (ev_index_string (strT rfl) rfl rfl (by omega)).to (show _ = by8 a from by rw [← ea]; rfl) | exact (ev_index_string (strT rfl) rfl rfl (by omega)).to (show _ = by8 b from by rw [← eb]; rfl))))) | ((show Wl _ _ _ _ _ _ _ (⟨_, .call ⟨.value (.func 80), _, _⟩, _, _, _, _⟩ :: _) _ _); refine wl_call0 rfl rfl has80 rfl (fun w hs => by first | exact ha w | exact hb w) ?_) | apply Wl.nil) | (apply gQ; first | (apply Wq.ev rfl rfl; (focus (first | exact ev_move rfl | exact ev_assign rfl | exact ev_pickF rfl rfl | (apply gBin; first | exact ev_lti rfl rfl | exact ev_add64 rfl rfl (by omega)) | (apply gCal; first | exact ev_len_string (strT rfl) rfl) | (apply gIdx; first | exact (ev_index_string (strT rfl) rfl rfl (by omega)).to (show _ = by8 a from by rw [← ea]; rfl) | exact (ev_index_string (strT rfl) rfl rfl (by omega)).to (show _ = by8 b from by rw [← eb]; rfl)))))) | ((show W _ _ _ _ _ _ _ _ _); first | apply W.seq | apply W.region | apply W.block | apply W.skip | (refine W.condT rfl ?_) | (refine W.cond rfl ?_ ?_ <;> (intro h; try (exfalso; first | contradiction | omega | exact h rfl | exact h ⟨rfl, rfl⟩ | (exact Bool.false_ne_true ((by assumption : _ = false).symm.trans h)) | (exact Bool.false_ne_true (h.symm.trans (by assumption)))))) | (refine W.ret2 rfl rfl rfl ?_; intro w hs)))
        all_goals first | exact byt_no hs hno | (exfalso; omega) | fail
      | some y =>
        rw [hxa] at ha hun
        rw [hxb] at hb hun
        dsimp only at ha hb hun
        have hx := half_lt hxa
        have hy := half_lt hxb
        rw [map_map_app] at hun
        obtain ⟨z, hz⟩ : ∃ z, UInt8.ofNat (x * 16 + y) = z := ⟨_, rfl⟩
        have hzn : (z.toNat : Int) = 16 * (x : Int) + y := by
          rw [← hz, show (UInt8.ofNat (x * 16 + y)).toNat = x * 16 + y from Nat.mod_eq_of_lt (by omega)]
          omega
        rw [hz] at hun
        repeat' (first | (apply gL; first | (apply Wl.ev rfl rfl; (focus (first | exact ev_move rfl | exact ev_assign rfl | exact ev_pickF rfl rfl | (apply gBin; first | exact ev_lti rfl rfl | exact ev_add64 rfl rfl (by omega) | exact ev_mul64 rfl rfl (by omega)) | (apply gCal; first | exact ev_len_string (strT rfl) rfl) | (apply gIdx; first | exact (ev_index_string (strT rfl) rfl rfl (by omega)).to (show _ = by8 a from by rw [← ea]; rfl) | exact (ev_index_string (strT rfl) rfl rfl (by omega)).to (show _ = by8 b from by rw [← eb]; rfl)) | (apply gCon; first | exact (ev_convK (dT rfl) (intT rfl) rfl (IntWalk.u8_in _ (by omega))).to (show _ = by8 z from congrArg (Value.int .u8) hzn.symm))))) | ((show Wl _ _ _ _ _ _ _ (⟨_, .call ⟨.value (.func 80), _, _⟩, _, _, _, _⟩ :: _) _ _); refine wl_call0 rfl rfl has80 rfl (fun w hs => by first | exact ha w | exact hb w) ?_) | (refine wl_append_own (m := l.length) (k := 1) (o := o) (xs := bytV l) (news := [by8 z]) rfl rfl (slT rfl) (szT rfl) (byT rfl) (zeroT rfl) rfl rfl rfl hok (by repeat (first | exact List.Mem.head _ | apply List.Mem.tail)) rfl (fun j v h => by simpa using h) (by simp [Value.oneCell']) (by omega) (by simp only [maxLen]; omega) (by omega) (by repeat (first | exact TailUp.here | apply TailUp.there)) ?_; intro o1 hok1) | apply Wl.nil | (apply wl_buildSlice rfl rfl (slT rfl) (szT rfl) (zeroT rfl) rfl (by decide) rfl; (focus (simp [fillP, List.range_succ]; rfl)); intro b)) | (apply gQ; first | (apply Wq.ev rfl rfl; (focus (first | exact ev_move rfl | exact ev_assign rfl | exact ev_pickF rfl rfl | (apply gBin; first | exact ev_lti rfl rfl | exact ev_add64 rfl rfl (by omega) | exact ev_mul64 rfl rfl (by omega)) | (apply gCal; first | exact ev_len_string (strT rfl) rfl) | (apply gIdx; first | exact (ev_index_string (strT rfl) rfl rfl (by omega)).to (show _ = by8 a from by rw [← ea]; rfl) | exact (ev_index_string (strT rfl) rfl rfl (by omega)).to (show _ = by8 b from by rw [← eb]; rfl)) | (apply gCon; first | exact (ev_convK (dT rfl) (intT rfl) rfl (IntWalk.u8_in _ (by omega))).to (show _ = by8 z from congrArg (Value.int .u8) hzn.symm)))))) | ((show W _ _ _ _ _ _ _ _ _); first | apply W.seq | ((show W _ _ _ _ _ _ (.inl (.region 7 _ true) :: _) _ _); refine W.regionD (H0 := []) mixed SubH.nil ?_) | apply W.region | apply W.block | apply W.blk | apply W.skip | (refine W.condF rfl ?_) | (refine W.cond rfl ?_ ?_ <;> (intro h; try (exfalso; first | contradiction | omega | exact h rfl | exact h ⟨rfl, rfl⟩ | (exact Bool.false_ne_true ((by assumption : _ = false).symm.trans h)) | (exact Bool.false_ne_true (h.symm.trans (by assumption))))))) | ((show Wd _ _ _ _ _ _ _ _ _ _ _ _ _); first | ((refine Wd.all (by rfl) (by decide +kernel) ?_)) | (refine Wd.done (by decide +kernel) ?_) | (refine Wd.not (by decide +kernel) ?_) | (refine Wd.skip (by kernel_rfl) rfl (by kernel_rfl) (by decide +kernel) rfl rfl (by repeat (first | exact SubH.nil | apply SubH.keep | apply SubH.drop | exact List.Sublist.refl _ | exact List.sublist_append_left _ _)) ?_) | (refine Wd.take (by kernel_rfl) rfl (by kernel_rfl) (by decide +kernel) rfl rfl (by first | exact ev_move rfl | exact ev_assign rfl | exact ev_pickF rfl rfl | (apply gBin; first | exact ev_lti rfl rfl | exact ev_add64 rfl rfl (by omega) | exact ev_mul64 rfl rfl (by omega)) | (apply gCal; first | exact ev_len_string (strT rfl) rfl) | (apply gIdx; first | exact (ev_index_string (strT rfl) rfl rfl (by omega)).to (show _ = by8 a from by rw [← ea]; rfl) | exact (ev_index_string (strT rfl) rfl rfl (by omega)).to (show _ = by8 b from by rw [← eb]; rfl)) | (apply gCon; first | exact (ev_convK (dT rfl) (intT rfl) rfl (IntWalk.u8_in _ (by omega))).to (show _ = by8 z from congrArg (Value.int .u8) hzn.symm))) (by repeat (first | exact SubH.nil | apply SubH.keep | apply SubH.drop | exact List.Sublist.refl _ | exact List.sublist_append_left _ _)) ?_) | (refine Wd.split (by kernel_rfl) rfl rfl rfl ?_ ?_ <;> (intro h; try (exfalso; first | contradiction | omega | exact h rfl | exact h ⟨rfl, rfl⟩ | (exact Bool.false_ne_true ((by assumption : _ = false).symm.trans h)) | (exact Bool.false_ne_true (h.symm.trans (by assumption)))))) | (refine Wd.splitB (by kernel_rfl) rfl rfl rfl ?_ ?_ <;> (intro h; try (exfalso; first | contradiction | omega | exact h rfl | exact h ⟨rfl, rfl⟩ | (exact Bool.false_ne_true ((by assumption : _ = false).symm.trans h)) | (exact Bool.false_ne_true (h.symm.trans (by assumption)))))) | apply Wd.next) | apply AllO.nil | apply AllO.cons | (refine Or.inl (by decide +kernel)) | ((show _ ∨ Wl _ _ _ _ _ _ _ _ _ _); apply Or.inr) | (refine Wl.nilD (by repeat (first | exact SubH.nil | apply SubH.keep | apply SubH.drop | exact List.Sublist.refl _ | exact List.sublist_append_left _ _)) ?_))
        all_goals first
          | exact W.again (l ++ [z], o1) ⟨by simp only [List.length_append, List.length_singleton]; omega, by rw [bytV_snoc, List.length_append]; exact hok1, by rw [hun]; simp only [List.length_append, List.length_singleton, Nat.mul_add, Nat.mul_one]⟩ (by simp only [List.length_append, List.length_singleton]; omega) (by simp only [List.length_append, List.length_singleton, Nat.mul_add, Nat.mul_one]; exact (by repeat (first | exact SubL.nil | refine SubL.cons rfl ?_))) (by repeat (first | exact SubH.nil | apply SubH.keep | apply SubH.drop | exact List.Sublist.refl _ | exact List.sublist_append_left _ _))
          | (exfalso; omega)
          | fail
  · have hm : ((s.length : Nat) : Int).tmod 2 = 0 ↔ s.length % 2 = 0 := by
      rw [Int.tmod_eq_emod_of_nonneg (by omega)]
      omega
    have hfin : (decide (((s.length : Nat) : Int).tmod 2 = 0)) = (bytsS s).isSome ∧ ∀ t, bytsS s = some t → l = t := by
      by_cases hev : s.length % 2 = 0
      · have : 2 * l.length = s.length := by omega
        rw [this, List.drop_length, unhexS] at hun
        rw [hse, hun]
        exact ⟨by rw [decide_eq_true (hm.2 hev)]; rfl, fun t ht => by cases ht; simp⟩
      · rw [hse, unhexS_odd s (by omega)]
        exact ⟨by rw [decide_eq_false (fun h => hev (hm.1 h))]; rfl, fun t ht => by cases ht⟩
    repeat' (first | (apply gL; first | (apply Wl.ev rfl rfl; (focus (first | exact ev_move rfl | exact ev_assign rfl | exact ev_pickT rfl rfl | (apply gBin; first | exact ev_eqi rfl rfl | exact ev_lti rfl rfl | exact ev_gti rfl rfl | exact ev_add64 rfl rfl (by omega) | exact ev_rem rfl rfl (by decide)) | (apply gCal; first | exact ev_len_string (strT rfl) rfl)))) | apply Wl.nil | ((fail_if_success (apply Wl.chk rfl)); refine Wl.split rfl rfl ?_ ?_ <;> (intro h; try (exfalso; first | contradiction | omega | exact h rfl | exact h ⟨rfl, rfl⟩ | (exact Bool.false_ne_true ((by assumption : _ = false).symm.trans h)) | (exact Bool.false_ne_true (h.symm.trans (by assumption))))))) | (apply gQ; first | (apply Wq.ev rfl rfl; (focus (first | exact ev_move rfl | exact ev_assign rfl | exact ev_pickT rfl rfl | (apply gBin; first | exact ev_eqi rfl rfl | exact ev_lti rfl rfl | exact ev_gti rfl rfl | exact ev_add64 rfl rfl (by omega) | exact ev_rem rfl rfl (by decide)) | (apply gCal; first | exact ev_len_string (strT rfl) rfl))))) | ((show W _ _ _ _ _ _ _ _ _); first | apply W.seq | apply W.region | (refine W.exit rfl ?_) | (refine W.cond rfl ?_ ?_ <;> (intro h; try (exfalso; first | contradiction | omega | exact h rfl | exact h ⟨rfl, rfl⟩ | (exact Bool.false_ne_true ((by assumption : _ = false).symm.trans h)) | (exact Bool.false_ne_true (h.symm.trans (by assumption)))))) | (refine W.ret2 rfl rfl rfl ?_; intro w hs)))
    all_goals first
      | exact byt_fin hs rfl hok (by omega) hfin.2 hfin.1 (List.Sublist.refl _)
      | (exfalso; omega)
      | fail

def numRS (s : List UInt8) (w : World) : Ending → World → Prop := Gives (fun v : Int => .tuple #[.int .i64 v, .bool (numR s).isSome]) (fun v => ∀ n, numR s = some n → v = n) w (fun _ => []) (fun _ => [])
theorem numR_no {w0 w : World} {H : List Ent} {s : List UInt8} {v : Int} (hs : St [] w0 w H) (h : numR s = none) : numRS s w0 (.returned (.tuple #[.int .i64 v, .bool false])) w :=
  ret_new hs v (fun n hn => by rw [h] at hn; cases hn) (by rw [h]; rfl) SubH.nil
theorem numR_fin {w0 w : World} {H : List Ent} {s : List UInt8} {v : Int} {b : Bool} (hs : St [] w0 w H) (h : ∀ n, numR s = some n → v = n) (hb : b = (numR s).isSome) : numRS s w0 (.returned (.tuple #[.int .i64 v, .bool b])) w := by
  subst hb
  exact ret_new hs v h rfl SubH.nil
theorem digP_take_succ {l : List UInt8} {j : Nat} {y : UInt8} (hj : j < l.length) (hy : l.getD j 0 = y) (h : digP (l.take j)) (h1 : 48 ≤ y.toNat) (h2 : y.toNat ≤ 57) : digP (l.take (j + 1)) ∧ valD (l.take (j + 1)) = valD (l.take j) * 10 + (y.toNat - 48) := by
  have e : l.take (j + 1) = l.take j ++ [y] := by
    rw [List.take_succ_eq_append_getElem hj, ← hy]
    simp [List.getD, hj]
  rw [e, val_snoc]
  refine ⟨fun b hb => ?_, rfl⟩
  rcases List.mem_append.1 hb with hb | hb
  · exact h b hb
  · rw [List.mem_singleton] at hb; rw [hb]; exact ⟨h1, h2⟩
set_option maxRecDepth 100000 in
set_option maxHeartbeats 4000000 in
theorem num28_ok (s : List UInt8) (hsl : s.length ≤ 1000000) (w : World) : Calls Tryd.prog 68 #[st s] w (numRS s w) := by
  refine calls_of_W (vs := [st s]) Tryd.func68 rfl Tryd.ntmps68 (Nat.le_of_ble_eq_true rfl) (St.nil w []) ?_
  simp only [argL]
  by_cases h11 : 11 < s.length
  · have hno : numR s = none := by unfold numR; rw [if_pos (.inr (.inl h11))]
    repeat' (first | (apply gL; first | (apply Wl.ev rfl rfl; (focus (first | exact ev_move rfl | exact ev_assign rfl | exact ev_pickT rfl rfl | exact ev_gti rfl rfl | (apply gCal; first | exact ev_len_string (strT rfl) rfl)))) | apply Wl.nil | (refine Wl.skip rfl rfl ?_) | ((fail_if_success (apply Wl.chk rfl)); refine Wl.split rfl rfl ?_ ?_ <;> (intro h; try (exfalso; first | contradiction | omega | exact h rfl | exact h ⟨rfl, rfl⟩ | (exact Bool.false_ne_true ((by assumption : _ = false).symm.trans h)) | (exact Bool.false_ne_true (h.symm.trans (by assumption))))))) | (apply gQ; first | (apply Wq.ev rfl rfl; (focus (first | exact ev_move rfl | exact ev_assign rfl | exact ev_pickT rfl rfl | exact ev_gti rfl rfl | (apply gCal; first | exact ev_len_string (strT rfl) rfl))))) | ((show W _ _ _ _ _ _ _ _ _); first | apply W.seq | apply W.region | (refine W.condT rfl ?_) | (refine W.ret2 rfl rfl rfl ?_; intro w hs)))
    all_goals first | exact numR_no hs hno | (exfalso; omega) | fail
  by_cases h0 : s = []
  · have hno : numR s = none := by unfold numR; rw [if_pos (.inl h0)]
    repeat' (first | (apply gL; first | (apply Wl.ev rfl rfl; (focus (first | exact ev_move rfl | exact ev_assign rfl | exact ev_pickF rfl rfl | (apply gBin; first | exact ev_eqs rfl rfl | exact ev_gti rfl rfl) | (apply gCal; first | exact ev_len_string (strT rfl) rfl)))) | apply Wl.nil | ((fail_if_success (apply Wl.chk rfl)); refine Wl.split rfl rfl ?_ ?_ <;> (intro h; try (exfalso; first | contradiction | omega | exact h rfl | exact h ⟨rfl, rfl⟩ | (exact Bool.false_ne_true ((by assumption : _ = false).symm.trans h)) | (exact Bool.false_ne_true (h.symm.trans (by assumption))))))) | (apply gQ; first | (apply Wq.ev rfl rfl; (focus (first | exact ev_move rfl | exact ev_assign rfl | exact ev_pickF rfl rfl | (apply gBin; first | exact ev_eqs rfl rfl | exact ev_gti rfl rfl) | (apply gCal; first | exact ev_len_string (strT rfl) rfl))))) | ((show W _ _ _ _ _ _ _ _ _); first | apply W.seq | apply W.region | (refine W.cond rfl ?_ ?_ <;> (intro h; try (exfalso; first | contradiction | omega | exact h rfl | exact h ⟨rfl, rfl⟩ | (exact Bool.false_ne_true ((by assumption : _ = false).symm.trans h)) | (exact Bool.false_ne_true (h.symm.trans (by assumption)))))) | (refine W.ret2 rfl rfl rfl ?_; intro w hs)))
    all_goals first | exact numR_no hs hno | contradiction | (exfalso; omega) | fail
  have hs0 := List.length_pos_iff.2 h0
  have hhd : s.head? = some (s.getD 0 0) := by
    cases s with
    | nil => exact absurd rfl h0
    | cons c t => rfl
  by_cases h45 : ((s.getD 0 0).toNat : Int) = 45
  · have e45 : s.getD 0 0 = 45 := UInt8.toNat_inj.1 (by have : (45 : UInt8).toNat = 45 := rfl; omega)
    skip
    obtain ⟨tl, htl⟩ : ∃ tl, s.drop 1 = tl := ⟨_, rfl⟩
    have htl2 : tailN s = tl := by unfold tailN; rw [hhd, if_pos (by rw [e45])]; exact htl
    have htll : tl.length + 1 = s.length := by rw [← htl]; simp <;> omega
    have hnr : numR s = if ¬digP tl then none else if Lib.itoa (valI s) = s ∧ valI s ≤ most then some (valI s) else none := by
      unfold numR
      rw [htl2]
      exact ite_iff ⟨fun h => h.elim (fun h => absurd h h0) (fun h => h.elim (fun h => absurd h h11) id), fun h => .inr (.inr h)⟩
    repeat' (first | (apply gL; first | (apply Wl.ev rfl rfl; (focus (first | exact ev_move rfl | exact ev_assign rfl | exact ev_pickF rfl rfl | (apply gBin; first | exact ev_eqi rfl rfl | exact ev_eqs rfl rfl | exact ev_gti rfl rfl) | (apply gCal; first | exact ev_len_string (strT rfl) rfl) | (apply gIdx; first | exact (ev_index_string (strT rfl) rfl rfl (by omega)).to (show _ = by8 (s.getD 0 0) from rfl))))) | apply Wl.nil | ((fail_if_success (apply Wl.chk rfl)); refine Wl.split rfl rfl ?_ ?_ <;> (intro h; try (exfalso; first | contradiction | omega | exact h rfl | exact h ⟨rfl, rfl⟩ | (exact Bool.false_ne_true ((by assumption : _ = false).symm.trans h)) | (exact Bool.false_ne_true (h.symm.trans (by assumption))))))) | (apply gQ; first | (apply Wq.ev rfl rfl; (focus (first | exact ev_move rfl | exact ev_assign rfl | exact ev_pickF rfl rfl | (apply gBin; first | exact ev_eqi rfl rfl | exact ev_eqs rfl rfl | exact ev_gti rfl rfl) | (apply gCal; first | exact ev_len_string (strT rfl) rfl) | (apply gIdx; first | exact (ev_index_string (strT rfl) rfl rfl (by omega)).to (show _ = by8 (s.getD 0 0) from rfl)))))) | ((show W _ _ _ _ _ _ _ _ _); first | apply W.seq | (refine W.loop (X := Nat) (fun j => [(0, st s), (4, .int .i64 (valD (tl.take j) : Nat)), (5, .int .i64 (1 + j : Nat))]) (fun _ => []) (fun j => j ≤ tl.length ∧ digP (tl.take j)) (fun j => tl.length - j) 0 ⟨Nat.zero_le _, fun b hb => by cases hb⟩ (by repeat (first | exact SubL.nil | refine SubL.cons rfl ?_)) (List.Sublist.refl _) ?_) | apply W.region | apply W.block | apply W.skip | (refine W.cond rfl ?_ ?_ <;> (intro h; try (exfalso; first | contradiction | omega | exact h rfl | exact h ⟨rfl, rfl⟩ | (exact Bool.false_ne_true ((by assumption : _ = false).symm.trans h)) | (exact Bool.false_ne_true (h.symm.trans (by assumption))))))))
    all_goals try (exfalso; omega)
    rintro j ⟨hj, hdj⟩
    have hvb := valD_bound (tl.take j) 11 (by rw [List.length_take]; omega) hdj
    by_cases hlt : j < tl.length
    · obtain ⟨y, hy⟩ : ∃ y, tl.getD j 0 = y := ⟨_, rfl⟩
      have hy2 : s.getD (1 + j) 0 = y := by
        rw [← hy, ← htl]
        simp [List.getD, List.getElem?_drop, Nat.add_comm]
      by_cases hdg : 48 ≤ y.toNat ∧ y.toNat ≤ 57
      · obtain ⟨hd2, hv2⟩ := digP_take_succ hlt hy hdj hdg.1 hdg.2
        obtain ⟨V, hV⟩ : ∃ V, valD (tl.take j) = V := ⟨_, rfl⟩
        rw [hV] at hv2 hvb ⊢
        repeat' (first | (apply gL; first | (apply Wl.ev rfl rfl; (focus (first | exact ev_move rfl | exact ev_assign rfl | exact ev_pickF rfl rfl | (apply gBin; first | exact ev_subK rfl rfl (IntWalk.u8_in _ (by omega)) | exact (ev_add64 rfl rfl (by omega)).to (show _ = Value.int .i64 ((valD (tl.take (j + 1)) : Nat) : Int) from congrArg (Value.int .i64) (by rw [hv2]; omega)) | exact ev_lti rfl rfl | exact ev_gti rfl rfl | exact ev_add64 rfl rfl (by omega) | exact ev_mul64 rfl rfl (by omega)) | (apply gCal; first | exact ev_len_string (strT rfl) rfl) | (apply gIdx; first | exact (ev_index_string (strT rfl) rfl rfl (by omega)).to (show _ = by8 y from by rw [← hy2]; rfl)) | (apply gCon; first | exact ev_convK (dT rfl) (intT rfl) rfl (wrap64_in (by omega)))))) | apply Wl.nil | ((fail_if_success (apply Wl.chk rfl)); refine Wl.split rfl rfl ?_ ?_ <;> (intro h; try (exfalso; first | contradiction | omega | exact h rfl | exact h ⟨rfl, rfl⟩ | (exact Bool.false_ne_true ((by assumption : _ = false).symm.trans h)) | (exact Bool.false_ne_true (h.symm.trans (by assumption))))))) | (apply gQ; first | (apply Wq.ev rfl rfl; (focus (first | exact ev_move rfl | exact ev_assign rfl | exact ev_pickF rfl rfl | (apply gBin; first | exact ev_subK rfl rfl (IntWalk.u8_in _ (by omega)) | exact (ev_add64 rfl rfl (by omega)).to (show _ = Value.int .i64 ((valD (tl.take (j + 1)) : Nat) : Int) from congrArg (Value.int .i64) (by rw [hv2]; omega)) | exact ev_lti rfl rfl | exact ev_gti rfl rfl | exact ev_add64 rfl rfl (by omega) | exact ev_mul64 rfl rfl (by omega)) | (apply gCal; first | exact ev_len_string (strT rfl) rfl) | (apply gIdx; first | exact (ev_index_string (strT rfl) rfl rfl (by omega)).to (show _ = by8 y from by rw [← hy2]; rfl)) | (apply gCon; first | exact ev_convK (dT rfl) (intT rfl) rfl (wrap64_in (by omega))))))) | ((show W _ _ _ _ _ _ _ _ _); first | apply W.seq | apply W.region | apply W.block | apply W.blk | apply W.skip | (refine W.cond rfl ?_ ?_ <;> (intro h; try (exfalso; first | contradiction | omega | exact h rfl | exact h ⟨rfl, rfl⟩ | (exact Bool.false_ne_true ((by assumption : _ = false).symm.trans h)) | (exact Bool.false_ne_true (h.symm.trans (by assumption))))))))
        all_goals first
          | exact W.again (j + 1) ⟨hlt, hd2⟩ (by show tl.length - (j + 1) < tl.length - j; omega) (by repeat (first | exact SubL.nil | refine SubL.cons rfl ?_)) (by repeat (first | exact SubH.nil | apply SubH.keep | apply SubH.drop | exact List.Sublist.refl _ | exact List.sublist_append_left _ _))
          | (exfalso; omega)
          | fail
      · have hno : numR s = none := by
          rw [hnr, if_pos]
          intro hd
          have := hd y (by rw [← hy]; exact getD_mem hlt)
          exact hdg this
        repeat' (first | (apply gL; first | (apply Wl.ev rfl rfl; (focus (first | exact ev_move rfl | exact ev_assign rfl | (apply gPic; first | exact ev_pickT rfl rfl | exact ev_pickF rfl rfl) | (apply gBin; first | exact ev_lti rfl rfl | exact ev_gti rfl rfl) | (apply gCal; first | exact ev_len_string (strT rfl) rfl) | (apply gIdx; first | exact (ev_index_string (strT rfl) rfl rfl (by omega)).to (show _ = by8 y from by rw [← hy2]; rfl))))) | apply Wl.nil | (refine Wl.skip rfl rfl ?_) | ((fail_if_success (apply Wl.chk rfl)); refine Wl.split rfl rfl ?_ ?_ <;> (intro h; try (exfalso; first | contradiction | omega | exact h rfl | exact h ⟨rfl, rfl⟩ | (exact Bool.false_ne_true ((by assumption : _ = false).symm.trans h)) | (exact Bool.false_ne_true (h.symm.trans (by assumption))))))) | (apply gQ; first | (apply Wq.ev rfl rfl; (focus (first | exact ev_move rfl | exact ev_assign rfl | (apply gPic; first | exact ev_pickT rfl rfl | exact ev_pickF rfl rfl) | (apply gBin; first | exact ev_lti rfl rfl | exact ev_gti rfl rfl) | (apply gCal; first | exact ev_len_string (strT rfl) rfl) | (apply gIdx; first | exact (ev_index_string (strT rfl) rfl rfl (by omega)).to (show _ = by8 y from by rw [← hy2]; rfl)))))) | ((show W _ _ _ _ _ _ _ _ _); first | apply W.seq | apply W.region | apply W.block | apply W.skip | (refine W.condT rfl ?_) | (refine W.cond rfl ?_ ?_ <;> (intro h; try (exfalso; first | contradiction | omega | exact h rfl | exact h ⟨rfl, rfl⟩ | (exact Bool.false_ne_true ((by assumption : _ = false).symm.trans h)) | (exact Bool.false_ne_true (h.symm.trans (by assumption)))))) | (refine W.ret2 rfl rfl rfl ?_; intro w hs)))
        all_goals first | exact numR_no hs hno | (exfalso; omega) | fail
    · obtain rfl : j = tl.length := by omega
      rw [List.take_length] at hdj hvb ⊢
      have hvi : valI s = -(valD tl : Int) := by unfold valI; rw [hhd, if_pos (by rw [e45])]; rw [htl]
      rw [if_neg (fun h => h hdj), hvi] at hnr
      obtain ⟨V, hV⟩ : ∃ V, valD tl = V := ⟨_, rfl⟩
      rw [hV] at hnr hvb ⊢
      unfold most at hnr
      have hfin : ∀ n, numR s = some n → -(V : Int) = n := fun n hn => by
        rw [hnr] at hn
        split at hn
        · cases hn; rfl
        · cases hn
      by_cases hz1 : Lib.itoa (-(V : Int)) = s
      · by_cases hz2 : -(V : Int) ≤ 9999999999
        · have hb : true = (numR s).isSome := by rw [hnr, if_pos ⟨hz1, hz2⟩]; rfl
          repeat' (first | (apply gL; first | (apply Wl.ev rfl rfl; (focus (first | exact ev_move rfl | exact ev_assign rfl | exact ev_pickT rfl rfl | (apply gBin; first | exact (ev_eqs rfl rfl).to (congrArg Value.bool (decide_eq_true hz1)) | exact (ev_lei rfl rfl).to (congrArg Value.bool (decide_eq_true hz2)) | exact ev_eqi rfl rfl | exact ev_lti rfl rfl) | (apply gUn; first | exact ev_neg64 rfl (by omega)) | (apply gCal; first | exact ev_len_string (strT rfl) rfl) | (apply gIdx; first | exact (ev_index_string (strT rfl) rfl rfl (by omega)).to (show _ = by8 (s.getD 0 0) from rfl))))) | ((show Wl _ _ _ _ _ _ _ (⟨_, .call ⟨.value (.func 37), _, _⟩, _, _, _, _⟩ :: _) _ _); refine wl_call0 rfl rfl has37 rfl (fun w hs => number28_ok _ (by omega) w) ?_) | apply Wl.nil) | (apply gQ; first | (apply Wq.ev rfl rfl; (focus (first | exact ev_move rfl | exact ev_assign rfl | exact ev_pickT rfl rfl | (apply gBin; first | exact (ev_eqs rfl rfl).to (congrArg Value.bool (decide_eq_true hz1)) | exact (ev_lei rfl rfl).to (congrArg Value.bool (decide_eq_true hz2)) | exact ev_eqi rfl rfl | exact ev_lti rfl rfl) | (apply gUn; first | exact ev_neg64 rfl (by omega)) | (apply gCal; first | exact ev_len_string (strT rfl) rfl) | (apply gIdx; first | exact (ev_index_string (strT rfl) rfl rfl (by omega)).to (show _ = by8 (s.getD 0 0) from rfl)))))) | ((show W _ _ _ _ _ _ _ _ _); first | apply W.seq | apply W.region | (refine W.exit rfl ?_) | (refine W.cond rfl ?_ ?_ <;> (intro h; try (exfalso; first | contradiction | omega | exact h rfl | exact h ⟨rfl, rfl⟩ | (exact Bool.false_ne_true ((by assumption : _ = false).symm.trans h)) | (exact Bool.false_ne_true (h.symm.trans (by assumption)))))) | (refine W.ret2 rfl rfl rfl ?_; intro w hs)))
          all_goals first | exact numR_fin hs hfin hb | (exfalso; omega) | fail
        · have hb : false = (numR s).isSome := by rw [hnr, if_neg (fun h => hz2 h.2)]; rfl
          repeat' (first | (apply gL; first | (apply Wl.ev rfl rfl; (focus (first | exact ev_move rfl | exact ev_lti rfl rfl | (apply gCal; first | exact ev_len_string (strT rfl) rfl)))) | apply Wl.nil) | (apply gQ; first | (apply Wq.ev rfl rfl; (focus (first | exact ev_move rfl | exact ev_lti rfl rfl | (apply gCal; first | exact ev_len_string (strT rfl) rfl))))) | ((show W _ _ _ _ _ _ _ _ _); first | apply W.seq | apply W.region | (refine W.cond rfl ?_ ?_ <;> (intro h; try (exfalso; first | contradiction | omega | exact h rfl | exact h ⟨rfl, rfl⟩ | (exact Bool.false_ne_true ((by assumption : _ = false).symm.trans h)) | (exact Bool.false_ne_true (h.symm.trans (by assumption))))))))
          all_goals first | exact numR_fin hs hfin hb | (exfalso; omega) | fail
      · have hb : false = (numR s).isSome := by rw [hnr, if_neg (fun h => hz1 h.1)]; rfl
        repeat' (first | (apply gL; first | (apply Wl.ev rfl rfl; (focus (first | exact ev_move rfl | exact ev_assign rfl | exact ev_pickF rfl rfl | (apply gBin; first | exact (ev_eqs rfl rfl).to (congrArg Value.bool (decide_eq_false hz1)) | exact ev_eqi rfl rfl | exact ev_lti rfl rfl) | (apply gUn; first | exact ev_neg64 rfl (by omega)) | (apply gCal; first | exact ev_len_string (strT rfl) rfl) | (apply gIdx; first | exact (ev_index_string (strT rfl) rfl rfl (by omega)).to (show _ = by8 (s.getD 0 0) from rfl))))) | ((show Wl _ _ _ _ _ _ _ (⟨_, .call ⟨.value (.func 37), _, _⟩, _, _, _, _⟩ :: _) _ _); refine wl_call0 rfl rfl has37 rfl (fun w hs => number28_ok _ (by omega) w) ?_) | apply Wl.nil | (refine Wl.skip rfl rfl ?_)) | (apply gQ; first | (apply Wq.ev rfl rfl; (focus (first | exact ev_move rfl | exact ev_assign rfl | exact ev_pickF rfl rfl | (apply gBin; first | exact (ev_eqs rfl rfl).to (congrArg Value.bool (decide_eq_false hz1)) | exact ev_eqi rfl rfl | exact ev_lti rfl rfl) | (apply gUn; first | exact ev_neg64 rfl (by omega)) | (apply gCal; first | exact ev_len_string (strT rfl) rfl) | (apply gIdx; first | exact (ev_index_string (strT rfl) rfl rfl (by omega)).to (show _ = by8 (s.getD 0 0) from rfl)))))) | ((show W _ _ _ _ _ _ _ _ _); first | apply W.seq | apply W.region | (refine W.exit rfl ?_) | (refine W.cond rfl ?_ ?_ <;> (intro h; try (exfalso; first | contradiction | omega | exact h rfl | exact h ⟨rfl, rfl⟩ | (exact Bool.false_ne_true ((by assumption : _ = false).symm.trans h)) | (exact Bool.false_ne_true (h.symm.trans (by assumption)))))) | (refine W.ret2 rfl rfl rfl ?_; intro w hs)))
        all_goals first | exact numR_fin hs hfin hb | (exfalso; omega) | fail
  · have e45 : ¬s.getD 0 0 = 45 := fun e => h45 (by rw [e]; rfl)
    have hne45 : ¬(some (s.getD 0 0) = some (45 : UInt8)) := fun e => e45 (Option.some.inj e)
    obtain ⟨tl, htl⟩ : ∃ tl, s.drop 0 = tl := ⟨_, rfl⟩
    have htl2 : tailN s = tl := by unfold tailN; rw [hhd, if_neg hne45]; exact htl
    have htll : tl.length + 0 = s.length := by rw [← htl]; simp <;> omega
    have hnr : numR s = if ¬digP tl then none else if Lib.itoa (valI s) = s ∧ valI s ≤ most then some (valI s) else none := by
      unfold numR
      rw [htl2]
      exact ite_iff ⟨fun h => h.elim (fun h => absurd h h0) (fun h => h.elim (fun h => absurd h h11) id), fun h => .inr (.inr h)⟩
    repeat' (first | (apply gL; first | (apply Wl.ev rfl rfl; (focus (first | exact ev_move rfl | exact ev_assign rfl | exact ev_pickF rfl rfl | (apply gBin; first | exact ev_eqi rfl rfl | exact ev_eqs rfl rfl | exact ev_gti rfl rfl) | (apply gCal; first | exact ev_len_string (strT rfl) rfl) | (apply gIdx; first | exact (ev_index_string (strT rfl) rfl rfl (by omega)).to (show _ = by8 (s.getD 0 0) from rfl))))) | apply Wl.nil | ((fail_if_success (apply Wl.chk rfl)); refine Wl.split rfl rfl ?_ ?_ <;> (intro h; try (exfalso; first | contradiction | omega | exact h rfl | exact h ⟨rfl, rfl⟩ | (exact Bool.false_ne_true ((by assumption : _ = false).symm.trans h)) | (exact Bool.false_ne_true (h.symm.trans (by assumption))))))) | (apply gQ; first | (apply Wq.ev rfl rfl; (focus (first | exact ev_move rfl | exact ev_assign rfl | exact ev_pickF rfl rfl | (apply gBin; first | exact ev_eqi rfl rfl | exact ev_eqs rfl rfl | exact ev_gti rfl rfl) | (apply gCal; first | exact ev_len_string (strT rfl) rfl) | (apply gIdx; first | exact (ev_index_string (strT rfl) rfl rfl (by omega)).to (show _ = by8 (s.getD 0 0) from rfl)))))) | ((show W _ _ _ _ _ _ _ _ _); first | apply W.seq | (refine W.loop (X := Nat) (fun j => [(0, st s), (4, .int .i64 (valD (tl.take j) : Nat)), (5, .int .i64 (0 + j : Nat))]) (fun _ => []) (fun j => j ≤ tl.length ∧ digP (tl.take j)) (fun j => tl.length - j) 0 ⟨Nat.zero_le _, fun b hb => by cases hb⟩ (by repeat (first | exact SubL.nil | refine SubL.cons rfl ?_)) (List.Sublist.refl _) ?_) | apply W.region | apply W.block | apply W.skip | (refine W.cond rfl ?_ ?_ <;> (intro h; try (exfalso; first | contradiction | omega | exact h rfl | exact h ⟨rfl, rfl⟩ | (exact Bool.false_ne_true ((by assumption : _ = false).symm.trans h)) | (exact Bool.false_ne_true (h.symm.trans (by assumption))))))))
    all_goals try (exfalso; omega)
    rintro j ⟨hj, hdj⟩
    have hvb := valD_bound (tl.take j) 11 (by rw [List.length_take]; omega) hdj
    by_cases hlt : j < tl.length
    · obtain ⟨y, hy⟩ : ∃ y, tl.getD j 0 = y := ⟨_, rfl⟩
      have hy2 : s.getD (0 + j) 0 = y := by
        rw [← hy, ← htl]
        simp [List.getD, List.getElem?_drop, Nat.add_comm]
      by_cases hdg : 48 ≤ y.toNat ∧ y.toNat ≤ 57
      · obtain ⟨hd2, hv2⟩ := digP_take_succ hlt hy hdj hdg.1 hdg.2
        obtain ⟨V, hV⟩ : ∃ V, valD (tl.take j) = V := ⟨_, rfl⟩
        rw [hV] at hv2 hvb ⊢
        repeat' (first | (apply gL; first | (apply Wl.ev rfl rfl; (focus (first | exact ev_move rfl | exact ev_assign rfl | exact ev_pickF rfl rfl | (apply gBin; first | exact ev_subK rfl rfl (IntWalk.u8_in _ (by omega)) | exact (ev_add64 rfl rfl (by omega)).to (show _ = Value.int .i64 ((valD (tl.take (j + 1)) : Nat) : Int) from congrArg (Value.int .i64) (by rw [hv2]; omega)) | exact ev_lti rfl rfl | exact ev_gti rfl rfl | exact ev_add64 rfl rfl (by omega) | exact ev_mul64 rfl rfl (by omega)) | (apply gCal; first | exact ev_len_string (strT rfl) rfl) | (apply gIdx; first | exact (ev_index_string (strT rfl) rfl rfl (by omega)).to (show _ = by8 y from by rw [← hy2]; rfl)) | (apply gCon; first | exact ev_convK (dT rfl) (intT rfl) rfl (wrap64_in (by omega)))))) | apply Wl.nil | ((fail_if_success (apply Wl.chk rfl)); refine Wl.split rfl rfl ?_ ?_ <;> (intro h; try (exfalso; first | contradiction | omega | exact h rfl | exact h ⟨rfl, rfl⟩ | (exact Bool.false_ne_true ((by assumption : _ = false).symm.trans h)) | (exact Bool.false_ne_true (h.symm.trans (by assumption))))))) | (apply gQ; first | (apply Wq.ev rfl rfl; (focus (first | exact ev_move rfl | exact ev_assign rfl | exact ev_pickF rfl rfl | (apply gBin; first | exact ev_subK rfl rfl (IntWalk.u8_in _ (by omega)) | exact (ev_add64 rfl rfl (by omega)).to (show _ = Value.int .i64 ((valD (tl.take (j + 1)) : Nat) : Int) from congrArg (Value.int .i64) (by rw [hv2]; omega)) | exact ev_lti rfl rfl | exact ev_gti rfl rfl | exact ev_add64 rfl rfl (by omega) | exact ev_mul64 rfl rfl (by omega)) | (apply gCal; first | exact ev_len_string (strT rfl) rfl) | (apply gIdx; first | exact (ev_index_string (strT rfl) rfl rfl (by omega)).to (show _ = by8 y from by rw [← hy2]; rfl)) | (apply gCon; first | exact ev_convK (dT rfl) (intT rfl) rfl (wrap64_in (by omega))))))) | ((show W _ _ _ _ _ _ _ _ _); first | apply W.seq | apply W.region | apply W.block | apply W.blk | apply W.skip | (refine W.cond rfl ?_ ?_ <;> (intro h; try (exfalso; first | contradiction | omega | exact h rfl | exact h ⟨rfl, rfl⟩ | (exact Bool.false_ne_true ((by assumption : _ = false).symm.trans h)) | (exact Bool.false_ne_true (h.symm.trans (by assumption))))))))
        all_goals first
          | exact W.again (j + 1) ⟨hlt, hd2⟩ (by show tl.length - (j + 1) < tl.length - j; omega) (by repeat (first | exact SubL.nil | refine SubL.cons rfl ?_)) (by repeat (first | exact SubH.nil | apply SubH.keep | apply SubH.drop | exact List.Sublist.refl _ | exact List.sublist_append_left _ _))
          | (exfalso; omega)
          | fail
      · have hno : numR s = none := by
          rw [hnr, if_pos]
          intro hd
          have := hd y (by rw [← hy]; exact getD_mem hlt)
          exact hdg this
        repeat' (first | (apply gL; first | (apply Wl.ev rfl rfl; (focus (first | exact ev_move rfl | exact ev_assign rfl | (apply gPic; first | exact ev_pickT rfl rfl | exact ev_pickF rfl rfl) | (apply gBin; first | exact ev_lti rfl rfl | exact ev_gti rfl rfl) | (apply gCal; first | exact ev_len_string (strT rfl) rfl) | (apply gIdx; first | exact (ev_index_string (strT rfl) rfl rfl (by omega)).to (show _ = by8 y from by rw [← hy2]; rfl))))) | apply Wl.nil | (refine Wl.skip rfl rfl ?_) | ((fail_if_success (apply Wl.chk rfl)); refine Wl.split rfl rfl ?_ ?_ <;> (intro h; try (exfalso; first | contradiction | omega | exact h rfl | exact h ⟨rfl, rfl⟩ | (exact Bool.false_ne_true ((by assumption : _ = false).symm.trans h)) | (exact Bool.false_ne_true (h.symm.trans (by assumption))))))) | (apply gQ; first | (apply Wq.ev rfl rfl; (focus (first | exact ev_move rfl | exact ev_assign rfl | (apply gPic; first | exact ev_pickT rfl rfl | exact ev_pickF rfl rfl) | (apply gBin; first | exact ev_lti rfl rfl | exact ev_gti rfl rfl) | (apply gCal; first | exact ev_len_string (strT rfl) rfl) | (apply gIdx; first | exact (ev_index_string (strT rfl) rfl rfl (by omega)).to (show _ = by8 y from by rw [← hy2]; rfl)))))) | ((show W _ _ _ _ _ _ _ _ _); first | apply W.seq | apply W.region | apply W.block | apply W.skip | (refine W.condT rfl ?_) | (refine W.cond rfl ?_ ?_ <;> (intro h; try (exfalso; first | contradiction | omega | exact h rfl | exact h ⟨rfl, rfl⟩ | (exact Bool.false_ne_true ((by assumption : _ = false).symm.trans h)) | (exact Bool.false_ne_true (h.symm.trans (by assumption)))))) | (refine W.ret2 rfl rfl rfl ?_; intro w hs)))
        all_goals first | exact numR_no hs hno | (exfalso; omega) | fail
    · obtain rfl : j = tl.length := by omega
      rw [List.take_length] at hdj hvb ⊢
      have hvi : valI s = (valD tl : Int) := by unfold valI; rw [hhd, if_neg hne45]; rw [show tl = s from htl.symm]
      rw [if_neg (fun h => h hdj), hvi] at hnr
      obtain ⟨V, hV⟩ : ∃ V, valD tl = V := ⟨_, rfl⟩
      rw [hV] at hnr hvb ⊢
      unfold most at hnr
      have hfin : ∀ n, numR s = some n → (V : Int) = n := fun n hn => by
        rw [hnr] at hn
        split at hn
        · cases hn; rfl
        · cases hn
      by_cases hz1 : Lib.itoa ((V : Int)) = s
      · by_cases hz2 : (V : Int) ≤ 9999999999
        · have hb : true = (numR s).isSome := by rw [hnr, if_pos ⟨hz1, hz2⟩]; rfl
          repeat' (first | (apply gL; first | (apply Wl.ev rfl rfl; (focus (first | exact ev_move rfl | exact ev_assign rfl | exact ev_pickT rfl rfl | (apply gBin; first | exact (ev_eqs rfl rfl).to (congrArg Value.bool (decide_eq_true hz1)) | exact (ev_lei rfl rfl).to (congrArg Value.bool (decide_eq_true hz2)) | exact ev_eqi rfl rfl | exact ev_lti rfl rfl) | (apply gCal; first | exact ev_len_string (strT rfl) rfl) | (apply gIdx; first | exact (ev_index_string (strT rfl) rfl rfl (by omega)).to (show _ = by8 (s.getD 0 0) from rfl))))) | ((show Wl _ _ _ _ _ _ _ (⟨_, .call ⟨.value (.func 37), _, _⟩, _, _, _, _⟩ :: _) _ _); refine wl_call0 rfl rfl has37 rfl (fun w hs => number28_ok _ (by omega) w) ?_) | apply Wl.nil) | (apply gQ; first | (apply Wq.ev rfl rfl; (focus (first | exact ev_move rfl | exact ev_assign rfl | exact ev_pickT rfl rfl | (apply gBin; first | exact (ev_eqs rfl rfl).to (congrArg Value.bool (decide_eq_true hz1)) | exact (ev_lei rfl rfl).to (congrArg Value.bool (decide_eq_true hz2)) | exact ev_eqi rfl rfl | exact ev_lti rfl rfl) | (apply gCal; first | exact ev_len_string (strT rfl) rfl) | (apply gIdx; first | exact (ev_index_string (strT rfl) rfl rfl (by omega)).to (show _ = by8 (s.getD 0 0) from rfl)))))) | ((show W _ _ _ _ _ _ _ _ _); first | apply W.seq | apply W.region | apply W.skip | (refine W.exit rfl ?_) | (refine W.cond rfl ?_ ?_ <;> (intro h; try (exfalso; first | contradiction | omega | exact h rfl | exact h ⟨rfl, rfl⟩ | (exact Bool.false_ne_true ((by assumption : _ = false).symm.trans h)) | (exact Bool.false_ne_true (h.symm.trans (by assumption)))))) | (refine W.ret2 rfl rfl rfl ?_; intro w hs)))
          all_goals first | exact numR_fin hs hfin hb | (exfalso; omega) | fail
        · have hb : false = (numR s).isSome := by rw [hnr, if_neg (fun h => hz2 h.2)]; rfl
          repeat' (first | (apply gL; first | (apply Wl.ev rfl rfl; (focus (first | exact ev_move rfl | exact ev_assign rfl | exact ev_pickT rfl rfl | (apply gBin; first | exact (ev_eqs rfl rfl).to (congrArg Value.bool (decide_eq_true hz1)) | exact (ev_lei rfl rfl).to (congrArg Value.bool (decide_eq_false hz2)) | exact ev_eqi rfl rfl | exact ev_lti rfl rfl) | (apply gCal; first | exact ev_len_string (strT rfl) rfl) | (apply gIdx; first | exact (ev_index_string (strT rfl) rfl rfl (by omega)).to (show _ = by8 (s.getD 0 0) from rfl))))) | ((show Wl _ _ _ _ _ _ _ (⟨_, .call ⟨.value (.func 37), _, _⟩, _, _, _, _⟩ :: _) _ _); refine wl_call0 rfl rfl has37 rfl (fun w hs => number28_ok _ (by omega) w) ?_) | apply Wl.nil) | (apply gQ; first | (apply Wq.ev rfl rfl; (focus (first | exact ev_move rfl | exact ev_assign rfl | exact ev_pickT rfl rfl | (apply gBin; first | exact (ev_eqs rfl rfl).to (congrArg Value.bool (decide_eq_true hz1)) | exact (ev_lei rfl rfl).to (congrArg Value.bool (decide_eq_false hz2)) | exact ev_eqi rfl rfl | exact ev_lti rfl rfl) | (apply gCal; first | exact ev_len_string (strT rfl) rfl) | (apply gIdx; first | exact (ev_index_string (strT rfl) rfl rfl (by omega)).to (show _ = by8 (s.getD 0 0) from rfl)))))) | ((show W _ _ _ _ _ _ _ _ _); first | apply W.seq | apply W.region | apply W.skip | (refine W.exit rfl ?_) | (refine W.cond rfl ?_ ?_ <;> (intro h; try (exfalso; first | contradiction | omega | exact h rfl | exact h ⟨rfl, rfl⟩ | (exact Bool.false_ne_true ((by assumption : _ = false).symm.trans h)) | (exact Bool.false_ne_true (h.symm.trans (by assumption)))))) | (refine W.ret2 rfl rfl rfl ?_; intro w hs)))
          all_goals first | exact numR_fin hs hfin hb | (exfalso; omega) | fail
      · have hb : false = (numR s).isSome := by rw [hnr, if_neg (fun h => hz1 h.1)]; rfl
        repeat' (first | (apply gL; first | (apply Wl.ev rfl rfl; (focus (first | exact ev_move rfl | exact ev_assign rfl | exact ev_pickF rfl rfl | (apply gBin; first | exact (ev_eqs rfl rfl).to (congrArg Value.bool (decide_eq_false hz1)) | exact ev_eqi rfl rfl | exact ev_lti rfl rfl) | (apply gCal; first | exact ev_len_string (strT rfl) rfl) | (apply gIdx; first | exact (ev_index_string (strT rfl) rfl rfl (by omega)).to (show _ = by8 (s.getD 0 0) from rfl))))) | ((show Wl _ _ _ _ _ _ _ (⟨_, .call ⟨.value (.func 37), _, _⟩, _, _, _, _⟩ :: _) _ _); refine wl_call0 rfl rfl has37 rfl (fun w hs => number28_ok _ (by omega) w) ?_) | apply Wl.nil | (refine Wl.skip rfl rfl ?_)) | (apply gQ; first | (apply Wq.ev rfl rfl; (focus (first | exact ev_move rfl | exact ev_assign rfl | exact ev_pickF rfl rfl | (apply gBin; first | exact (ev_eqs rfl rfl).to (congrArg Value.bool (decide_eq_false hz1)) | exact ev_eqi rfl rfl | exact ev_lti rfl rfl) | (apply gCal; first | exact ev_len_string (strT rfl) rfl) | (apply gIdx; first | exact (ev_index_string (strT rfl) rfl rfl (by omega)).to (show _ = by8 (s.getD 0 0) from rfl)))))) | ((show W _ _ _ _ _ _ _ _ _); first | apply W.seq | apply W.region | apply W.skip | (refine W.exit rfl ?_) | (refine W.cond rfl ?_ ?_ <;> (intro h; try (exfalso; first | contradiction | omega | exact h rfl | exact h ⟨rfl, rfl⟩ | (exact Bool.false_ne_true ((by assumption : _ = false).symm.trans h)) | (exact Bool.false_ne_true (h.symm.trans (by assumption)))))) | (refine W.ret2 rfl rfl rfl ?_; intro w hs)))
        all_goals first | exact numR_fin hs hfin hb | (exfalso; omega) | fail
end Go.Proofs.YtdnicbbandbdbaaDoor
