/- Walks: the document's quoted texts, read; a text's first line. No condition. -/
import Derived.Test.YtdnicbbandbdbaaDoorY3
import Derived.Test.YtdnicbbandbdbaaDoorU4
namespace Go.Proofs.YtdnicbbandbdbaaDoor
open Go.PB Go.RowKit
attribute [local irreducible] Go.Calls
theorem gq_out {S s s' L L' : List UInt8} (h : unqG S = (unqG s).map (L ++ ·)) (h2 : unqG s = (unqG s').map (L' ++ ·)) : unqG S = (unqG s').map ((L ++ L') ++ ·) := by
  rw [h, h2]
  cases unqG s' <;> simp
theorem gq_no {S s L : List UInt8} (h : unqG S = (unqG s).map (L ++ ·)) (h2 : unqG s = none) : unqG S = none := by rw [h, h2]; rfl
def txR (s : List UInt8) (w : World) : Ending → World → Prop := Gives (fun t : List UInt8 => .tuple #[st t, .bool (unqR s).isSome]) (fun t => (∀ u, unqR s = some u → t = u) ∧ t.length ≤ s.length) w (fun _ => []) (fun _ => [])
theorem tx_no {w0 w : World} {H : List Ent} {s : List UInt8} (hs : St [] w0 w H) (h : unqR s = none) : txR s w0 (.returned (.tuple #[st [], .bool false])) w :=
  ret_new hs [] ⟨fun u hu => (by rw [h] at hu; cases hu), Nat.zero_le _⟩ (by rw [h]; rfl) SubH.nil
theorem tx_fin {w0 w : World} {H : List Ent} {s t : List UInt8} {b : Bool} (hs : St [] w0 w H) (h : ∀ u, unqR s = some u → t = u) (hl : t.length ≤ s.length) (hb : b = (unqR s).isSome) : txR s w0 (.returned (.tuple #[st t, .bool b])) w := by
  subst hb
  exact ret_new hs t ⟨h, hl⟩ rfl SubH.nil
theorem byts_pair (a b : UInt8) : bytsS [a, b] = (pairS a b).map fun x => [x] := by
  rw [bytsS_eq _ (by simp), unhexS_cons]
  cases pairS a b with
  | none => rfl
  | some x => simp [unhexS]
set_option maxRecDepth 100000 in
set_option maxHeartbeats 8000000 in
theorem unquote28_ok (s : List UInt8) (hsl : s.length ≤ 1000000) (w : World) : Calls Tryd.prog 70 #[st s] w (txR s w) := by
  refine calls_of_W (vs := [st s]) Tryd.func70 rfl Tryd.ntmps70 (Nat.le_of_ble_eq_true rfl) (St.nil w []) ?_
  simp only [argL]
  have hlt0 : ((s.length : Int) - 1).toNat = s.length - 1 := by omega
  by_cases h3 : s.length < 3
  · have hno : unqR s = none := by unfold unqR; rw [if_pos (.inl h3)]
    repeat' (first | (apply gL; first | (apply Wl.ev rfl rfl; (focus (first | exact ev_move rfl | exact ev_assign rfl | exact ev_pickT rfl rfl | exact ev_lti rfl rfl | (apply gCal; first | exact ev_len_string (strT rfl) rfl)))) | apply Wl.nil | (refine Wl.skip rfl rfl ?_) | ((fail_if_success (apply Wl.chk rfl)); refine Wl.split rfl rfl ?_ ?_ <;> (intro h; try (exfalso; first | contradiction | omega | exact h rfl | exact h ⟨rfl, rfl⟩ | (exact Bool.false_ne_true ((by assumption : _ = false).symm.trans h)) | (exact Bool.false_ne_true (h.symm.trans (by assumption))))))) | (apply gQ; first | (apply Wq.ev rfl rfl; (focus (first | exact ev_move rfl | exact ev_assign rfl | exact ev_pickT rfl rfl | exact ev_lti rfl rfl | (apply gCal; first | exact ev_len_string (strT rfl) rfl))))) | ((show W _ _ _ _ _ _ _ _ _); first | apply W.seq | apply W.region | (refine W.condT rfl ?_) | (refine W.ret2 rfl rfl rfl ?_; intro w hs)))
    all_goals first | exact tx_no hs hno | (exfalso; omega) | fail
  have hhd : s.head? = some (s.getD 0 0) := by
    cases s with
    | nil => simp at h3
    | cons c t => rfl
  have hla : s.getLast? = some (s.getD (s.length - 1) 0) := by
    rw [List.getLast?_eq_getElem?, List.getD_eq_getElem?_getD, List.getElem?_eq_getElem (by omega)]
    rfl
  by_cases hb0 : ((s.getD 0 0).toNat : Int) = 34
  case neg =>
    have hno : unqR s = none := by
      unfold unqR
      rw [if_pos (.inr (.inl (by rw [hhd]; exact fun e => hb0 (by rw [Option.some.inj e]; rfl))))]
    repeat' (first | (apply gL; first | (apply Wl.ev rfl rfl; (focus (first | exact ev_move rfl | exact ev_assign rfl | (apply gPic; first | exact ev_pickT rfl rfl | exact ev_pickF rfl rfl) | (apply gBin; first | exact ev_nei rfl rfl | exact ev_lti rfl rfl) | (apply gCal; first | exact ev_len_string (strT rfl) rfl) | (apply gIdx; first | exact (ev_index_string (strT rfl) rfl rfl (by omega)).to (show _ = by8 (s.getD 0 0) from rfl))))) | apply Wl.nil | (refine Wl.skip rfl rfl ?_) | ((fail_if_success (apply Wl.chk rfl)); refine Wl.split rfl rfl ?_ ?_ <;> (intro h; try (exfalso; first | contradiction | omega | exact h rfl | exact h ⟨rfl, rfl⟩ | (exact Bool.false_ne_true ((by assumption : _ = false).symm.trans h)) | (exact Bool.false_ne_true (h.symm.trans (by assumption))))))) | (apply gQ; first | (apply Wq.ev rfl rfl; (focus (first | exact ev_move rfl | exact ev_assign rfl | (apply gPic; first | exact ev_pickT rfl rfl | exact ev_pickF rfl rfl) | (apply gBin; first | exact ev_nei rfl rfl | exact ev_lti rfl rfl) | (apply gCal; first | exact ev_len_string (strT rfl) rfl) | (apply gIdx; first | exact (ev_index_string (strT rfl) rfl rfl (by omega)).to (show _ = by8 (s.getD 0 0) from rfl)))))) | ((show W _ _ _ _ _ _ _ _ _); first | apply W.seq | apply W.region | (refine W.condT rfl ?_) | (refine W.ret2 rfl rfl rfl ?_; intro w hs)))
    all_goals first | exact tx_no hs hno | (exfalso; omega) | fail
  by_cases hb1 : ((s.getD (s.length - 1) 0).toNat : Int) = 34
  case neg =>
    have hno : unqR s = none := by
      unfold unqR
      rw [if_pos (.inr (.inr (by rw [hla]; exact fun e => hb1 (by rw [Option.some.inj e]; rfl))))]
    repeat' (first | (apply gL; first | (apply Wl.ev rfl rfl; (focus (first | exact ev_move rfl | exact ev_assign rfl | exact ev_pickF rfl rfl | (apply gBin; first | exact ev_nei rfl rfl | exact ev_lti rfl rfl | exact ev_sub64 rfl rfl (by omega)) | (apply gCal; first | exact ev_len_string (strT rfl) rfl) | (apply gIdx; first | exact (ev_index_string (strT rfl) rfl rfl (by omega)).to (show _ = by8 (s.getD 0 0) from rfl) | exact (ev_index_string (strT rfl) rfl rfl (by omega)).to (congrArg by8 (congrArg (fun i => s.getD i 0) hlt0)))))) | apply Wl.nil | ((fail_if_success (apply Wl.chk rfl)); refine Wl.split rfl rfl ?_ ?_ <;> (intro h; try (exfalso; first | contradiction | omega | exact h rfl | exact h ⟨rfl, rfl⟩ | (exact Bool.false_ne_true ((by assumption : _ = false).symm.trans h)) | (exact Bool.false_ne_true (h.symm.trans (by assumption))))))) | (apply gQ; first | (apply Wq.ev rfl rfl; (focus (first | exact ev_move rfl | exact ev_assign rfl | exact ev_pickF rfl rfl | (apply gBin; first | exact ev_nei rfl rfl | exact ev_lti rfl rfl | exact ev_sub64 rfl rfl (by omega)) | (apply gCal; first | exact ev_len_string (strT rfl) rfl) | (apply gIdx; first | exact (ev_index_string (strT rfl) rfl rfl (by omega)).to (show _ = by8 (s.getD 0 0) from rfl) | exact (ev_index_string (strT rfl) rfl rfl (by omega)).to (congrArg by8 (congrArg (fun i => s.getD i 0) hlt0))))))) | ((show W _ _ _ _ _ _ _ _ _); first | apply W.seq | apply W.region | (refine W.cond rfl ?_ ?_ <;> (intro h; try (exfalso; first | contradiction | omega | exact h rfl | exact h ⟨rfl, rfl⟩ | (exact Bool.false_ne_true ((by assumption : _ = false).symm.trans h)) | (exact Bool.false_ne_true (h.symm.trans (by assumption)))))) | (refine W.ret2 rfl rfl rfl ?_; intro w hs)))
    all_goals first | exact tx_no hs hno | (exfalso; omega) | fail
  obtain ⟨B, hB⟩ : ∃ B, s.dropLast.drop 1 = B := ⟨_, rfl⟩
  have hBl : B.length + 2 = s.length := by rw [← hB]; simp; omega
  have hBs : st ((s.take ((s.length : Int) - 1).toNat).drop (1 : Int).toNat) = st B := by rw [hlt0, ← hB, List.dropLast_eq_take]; rfl
  have hur : unqR s = match unqG B with
      | none => none
      | some l => if quoS l = s then some l else none := by
    have e34 : (34 : UInt8).toNat = 34 := rfl
    have hn : ¬(s.length < 3 ∨ s.head? ≠ some 34 ∨ s.getLast? ≠ some 34) := by
      rintro (h | h | h)
      · exact h3 h
      · exact h (by rw [hhd]; exact congrArg some (UInt8.toNat_inj.1 (by omega)))
      · exact h (by rw [hla]; exact congrArg some (UInt8.toNat_inj.1 (by omega)))
    unfold unqR
    rw [hB, if_neg hn]
    rfl
  repeat' (first | (apply gL; first | (apply Wl.ev rfl rfl; (focus (first | exact ev_move rfl | exact ev_assign rfl | exact ev_pickF rfl rfl | (apply gBin; first | exact ev_nei rfl rfl | exact ev_lti rfl rfl | exact ev_sub64 rfl rfl (by omega)) | (apply gCal; first | exact ev_len_string (strT rfl) rfl) | (apply gIdx; first | exact (ev_index_string (strT rfl) rfl rfl (by omega)).to (show _ = by8 (s.getD 0 0) from rfl) | exact (ev_index_string (strT rfl) rfl rfl (by omega)).to (congrArg by8 (congrArg (fun i => s.getD i 0) hlt0))) | (apply gSli; first | exact (ev_slice_string (strT rfl) rfl rfl rfl (by first | omega | (simp; done) | (simp; omega) | (simp [*]; done) | (simp [*]; omega) | (simp_all; done) | (simp_all; omega))).to hBs)))) | apply Wl.nil | ((fail_if_success (apply Wl.chk rfl)); refine Wl.split rfl rfl ?_ ?_ <;> (intro h; try (exfalso; first | contradiction | omega | exact h rfl | exact h ⟨rfl, rfl⟩ | (exact Bool.false_ne_true ((by assumption : _ = false).symm.trans h)) | (exact Bool.false_ne_true (h.symm.trans (by assumption))))))) | (apply gQ; first | (apply Wq.ev rfl rfl; (focus (first | exact ev_move rfl | exact ev_assign rfl | exact ev_pickF rfl rfl | (apply gBin; first | exact ev_nei rfl rfl | exact ev_lti rfl rfl | exact ev_sub64 rfl rfl (by omega)) | (apply gCal; first | exact ev_len_string (strT rfl) rfl) | (apply gIdx; first | exact (ev_index_string (strT rfl) rfl rfl (by omega)).to (show _ = by8 (s.getD 0 0) from rfl) | exact (ev_index_string (strT rfl) rfl rfl (by omega)).to (congrArg by8 (congrArg (fun i => s.getD i 0) hlt0))) | (apply gSli; first | exact (ev_slice_string (strT rfl) rfl rfl rfl (by first | omega | (simp; done) | (simp; omega) | (simp [*]; done) | (simp [*]; omega) | (simp_all; done) | (simp_all; omega))).to hBs))))) | ((show W _ _ _ _ _ _ _ _ _); first | apply W.seq | (refine W.loop (X := List UInt8 × Nat × Ow) (fun x => [(0, st s), (4, st B), (5, ownV x.1.length x.2.2), (6, .int .i64 (x.2.1 : Nat))]) (fun x => ownH 5 x.2.2) (fun x => x.2.1 ≤ B.length ∧ unqG B = (unqG (B.drop x.2.1)).map (x.1 ++ ·) ∧ ownOk x.1.length 1 (bytV x.1) x.2.2 ∧ x.1.length ≤ x.2.1) (fun x => B.length - x.2.1) ([], 0, none) ⟨Nat.zero_le _, by simp, ⟨rfl, rfl⟩, Nat.zero_le _⟩ (by repeat (first | exact SubL.nil | refine SubL.cons rfl ?_)) (List.Sublist.refl _) ?_) | apply W.region | apply W.block | apply W.skip | (refine W.cond rfl ?_ ?_ <;> (intro h; try (exfalso; first | contradiction | omega | exact h rfl | exact h ⟨rfl, rfl⟩ | (exact Bool.false_ne_true ((by assumption : _ = false).symm.trans h)) | (exact Bool.false_ne_true (h.symm.trans (by assumption))))))))
  all_goals try (exfalso; omega)
  rintro ⟨out, i, o⟩ ⟨hi, hun, hok, hol⟩
  dsimp only at hi hun hok hol ⊢
  by_cases hlt : i < B.length
  case neg =>
    obtain rfl : i = B.length := by omega
    rw [List.drop_length, unqG_nil] at hun
    have hfin : unqR s = if quoS out = s then some out else none := by
      rw [hur, hun]
      simp
    have hq : ∀ w, Calls Tryd.prog 66 #[st out] w (Give (st (quoS out)) w) := fun w => quote28_ok out (by omega) w
    have hx : ∀ u, unqR s = some u → out = u := fun u hu => by
      rw [hfin] at hu
      split at hu
      · exact Option.some.inj hu
      · cases hu
    have hbb : (decide (quoS out = s)) = (unqR s).isSome := by
      rw [hfin]
      by_cases h : quoS out = s
      · rw [if_pos h, decide_eq_true h]; rfl
      · rw [if_neg h, decide_eq_false h]; rfl
    repeat' (first | (apply gL; first | (apply Wl.ev rfl rfl; (focus (first | exact ev_move rfl | exact ev_assign rfl | (apply gBin; first | exact ev_eqs rfl rfl | exact ev_lti rfl rfl) | (apply gCal; first | exact ev_len_string (strT rfl) rfl) | exact ev_bytesOwn (l := out) (o := o) (m := out.length) (et := 5) (slT rfl) (intT rfl) (strT rfl) rfl hok (fun p hp => hp)))) | apply Wl.nil) | (apply gQ; first | (apply Wq.ev rfl rfl; (focus (first | exact ev_move rfl | exact ev_assign rfl | (apply gBin; first | exact ev_eqs rfl rfl | exact ev_lti rfl rfl) | (apply gCal; first | exact ev_len_string (strT rfl) rfl) | exact ev_bytesOwn (l := out) (o := o) (m := out.length) (et := 5) (slT rfl) (intT rfl) (strT rfl) rfl hok (fun p hp => hp)))) | ((show Wq _ _ (Qt _ _ _ _) _ _ _ _ [] _ _); apply Wq.tail) | ((show Wq _ _ _ _ _ _ _ (⟨_, .call ⟨.value (.func 66), _, _⟩, _, _, _, _⟩ :: _) _ _); refine Wq.call0 rfl rfl has66 rfl (fun w hs => hq w) ?_)) | ((show W _ _ _ _ _ _ _ _ _); first | apply W.seq | ((show W _ _ _ _ _ _ (.inl (.region 30 _ true) :: _) _ _); refine W.regionT 8 mixed (by kernel_rfl) rfl rfl ?_) | apply W.region | (refine W.exit rfl ?_) | (refine W.cond rfl ?_ ?_ <;> (intro h; try (exfalso; first | contradiction | omega | exact h rfl | exact h ⟨rfl, rfl⟩ | (exact Bool.false_ne_true ((by assumption : _ = false).symm.trans h)) | (exact Bool.false_ne_true (h.symm.trans (by assumption)))))) | (refine W.ret2 rfl rfl rfl ?_; intro w hs)))
    all_goals first | exact tx_fin hs hx (by omega) hbb | (exfalso; omega) | fail
  have ed := drop_cons (d := 0) hlt
  obtain ⟨c, hc⟩ : ∃ c, B.getD i 0 = c := ⟨_, rfl⟩
  rw [hc] at ed
  have no : unqG (B.drop i) = none → unqR s = none := fun h => by rw [hur, gq_no hun h]
  by_cases c34 : (c.toNat : Int) = 34
  · have hno := no (by rw [ed, show c = 34 from UInt8.toNat_inj.1 (by have : (34 : UInt8).toNat = 34 := rfl; omega)]; exact unqG_34 _)
    repeat' (first | (apply gL; first | (apply Wl.ev rfl rfl; (focus (first | exact ev_move rfl | exact ev_assign rfl | (apply gBin; first | exact ev_eqi rfl rfl | exact ev_lti rfl rfl) | (apply gCal; first | exact ev_len_string (strT rfl) rfl) | (apply gIdx; first | exact (ev_index_string (strT rfl) rfl rfl (by omega)).to (congrArg by8 hc))))) | apply Wl.nil) | (apply gQ; first | (apply Wq.ev rfl rfl; (focus (first | exact ev_move rfl | exact ev_assign rfl | (apply gBin; first | exact ev_eqi rfl rfl | exact ev_lti rfl rfl) | (apply gCal; first | exact ev_len_string (strT rfl) rfl) | (apply gIdx; first | exact (ev_index_string (strT rfl) rfl rfl (by omega)).to (congrArg by8 hc)))))) | ((show W _ _ _ _ _ _ _ _ _); first | apply W.seq | apply W.region | apply W.block | apply W.skip | (refine W.cond rfl ?_ ?_ <;> (intro h; try (exfalso; first | contradiction | omega | exact h rfl | exact h ⟨rfl, rfl⟩ | (exact Bool.false_ne_true ((by assumption : _ = false).symm.trans h)) | (exact Bool.false_ne_true (h.symm.trans (by assumption)))))) | (refine W.ret2 rfl rfl rfl ?_; intro w hs)))
    all_goals first | exact tx_no hs hno | (exfalso; omega) | fail
  have hc34 : c ≠ 34 := fun e => c34 (by rw [e]; rfl)
  by_cases c92 : (c.toNat : Int) = 92
  case neg =>
    have hst2 : unqG (B.drop i) = (unqG (B.drop (i + 1))).map ([c] ++ ·) := by rw [ed]; exact unqG_plain _ hc34 (fun e => c92 (by rw [e]; rfl))
    obtain ⟨nx, hnx⟩ : ∃ nx, nx = i + 1 := ⟨_, rfl⟩
    rw [← hnx] at hst2
    have hnx : (nx : Int) = (i : Int) + 1 := by omega
    obtain ⟨y, rfl⟩ : ∃ y, y = c := ⟨_, rfl⟩
    repeat' (first | (apply gL; first | (apply Wl.ev rfl rfl; (focus (first | exact ev_move rfl | exact ev_assign rfl | (apply gBin; first | exact ev_eqi rfl rfl | exact ev_lti rfl rfl | exact ev_add64 rfl rfl (by omega)) | (apply gCal; first | exact ev_len_string (strT rfl) rfl) | (apply gIdx; first | exact (ev_index_string (strT rfl) rfl rfl (by omega)).to (congrArg by8 hc))))) | (refine wl_append_own (m := out.length) (k := 1) (o := o) (xs := bytV out) (news := [by8 y]) rfl rfl (slT rfl) (szT rfl) (byT rfl) (zeroT rfl) rfl rfl rfl hok (by repeat (first | exact List.Mem.head _ | apply List.Mem.tail)) rfl (fun j v h => by simpa using h) (by simp [Value.oneCell']) (by omega) (by simp only [maxLen]; omega) (by omega) (by repeat (first | exact TailUp.here | apply TailUp.there)) ?_; intro o2 hok2) | apply Wl.nil | (apply wl_buildSlice rfl rfl (slT rfl) (szT rfl) (zeroT rfl) rfl (by decide) rfl; (focus (simp [fillP, List.range_succ]; rfl)); intro b)) | (apply gQ; first | (apply Wq.ev rfl rfl; (focus (first | exact ev_move rfl | exact ev_assign rfl | (apply gBin; first | exact ev_eqi rfl rfl | exact ev_lti rfl rfl | exact ev_add64 rfl rfl (by omega)) | (apply gCal; first | exact ev_len_string (strT rfl) rfl) | (apply gIdx; first | exact (ev_index_string (strT rfl) rfl rfl (by omega)).to (congrArg by8 hc)))))) | ((show W _ _ _ _ _ _ _ _ _); first | apply W.seq | apply W.region | apply W.block | apply W.blk | apply W.skip | (refine W.cond rfl ?_ ?_ <;> (intro h; try (exfalso; first | contradiction | omega | exact h rfl | exact h ⟨rfl, rfl⟩ | (exact Bool.false_ne_true ((by assumption : _ = false).symm.trans h)) | (exact Bool.false_ne_true (h.symm.trans (by assumption))))))))
    all_goals first
      | exact W.again (out ++ [y], nx, o2) ⟨by show nx ≤ B.length; omega, gq_out hun hst2, by rw [bytV_snoc, List.length_append]; exact hok2, by show (out ++ [y]).length ≤ nx; rw [List.length_append]; simp only [List.length_singleton]; omega⟩ (by show B.length - nx < B.length - i; omega) (by show SubL [_, _, (5, ownV (out ++ [y]).length o2), (6, .int .i64 ((nx : Nat) : Int))] _; rw [List.length_append, hnx]; exact (by repeat (first | exact SubL.nil | refine SubL.cons rfl ?_))) (by repeat (first | exact SubH.nil | apply SubH.keep | apply SubH.drop | exact List.Sublist.refl _ | exact List.sublist_append_left _ _))
      | (exfalso; omega)
      | fail
  have hc92 : c = 92 := UInt8.toNat_inj.1 (by have : (92 : UInt8).toNat = 92 := rfl; omega)
  rw [hc92] at ed
  by_cases hend : i + 1 = B.length
  · have hno := no (by rw [ed, hend, List.drop_length]; exact unqG_end)
    repeat' (first | (apply gL; first | (apply Wl.ev rfl rfl; (focus (first | exact ev_move rfl | exact ev_assign rfl | (apply gBin; first | exact ev_eqi rfl rfl | exact ev_lti rfl rfl | exact ev_add64 rfl rfl (by omega)) | (apply gCal; first | exact ev_len_string (strT rfl) rfl) | (apply gIdx; first | exact (ev_index_string (strT rfl) rfl rfl (by omega)).to (congrArg by8 hc))))) | apply Wl.nil) | (apply gQ; first | (apply Wq.ev rfl rfl; (focus (first | exact ev_move rfl | exact ev_assign rfl | (apply gBin; first | exact ev_eqi rfl rfl | exact ev_lti rfl rfl | exact ev_add64 rfl rfl (by omega)) | (apply gCal; first | exact ev_len_string (strT rfl) rfl) | (apply gIdx; first | exact (ev_index_string (strT rfl) rfl rfl (by omega)).to (congrArg by8 hc)))))) | ((show W _ _ _ _ _ _ _ _ _); first | apply W.seq | apply W.region | apply W.block | apply W.skip | (refine W.cond rfl ?_ ?_ <;> (intro h; try (exfalso; first | contradiction | omega | exact h rfl | exact h ⟨rfl, rfl⟩ | (exact Bool.false_ne_true ((by assumption : _ = false).symm.trans h)) | (exact Bool.false_ne_true (h.symm.trans (by assumption)))))) | (refine W.ret2 rfl rfl rfl ?_; intro w hs)))
    all_goals first | exact tx_no hs hno | (exfalso; omega) | fail
  have ed2 := drop_cons (d := 0) (show i + 1 < B.length by omega)
  obtain ⟨d, hd⟩ : ∃ d, B.getD (i + 1) 0 = d := ⟨_, rfl⟩
  rw [hd] at ed2
  rw [ed2] at ed
  have hd' : B.getD ((i : Int) + 1).toNat 0 = d := by rw [show ((i : Int) + 1).toNat = i + 1 by omega]; exact hd
  by_cases hq : (d.toNat : Int) = 34 ∨ (d.toNat : Int) = 92
  · have hst2 : unqG (B.drop i) = (unqG (B.drop (i + 1 + 1))).map ([d] ++ ·) := by
      rw [ed]
      refine unqG_esc _ ?_
      rcases hq with h | h
      · exact .inl (UInt8.toNat_inj.1 (by have : (34 : UInt8).toNat = 34 := rfl; omega))
      · exact .inr (UInt8.toNat_inj.1 (by have : (92 : UInt8).toNat = 92 := rfl; omega))
    obtain ⟨nx, hnx⟩ : ∃ nx, nx = i + 1 + 1 := ⟨_, rfl⟩
    rw [← hnx] at hst2
    have hnx : (nx : Int) = (i : Int) + 1 + 1 := by omega
    obtain ⟨y, rfl⟩ : ∃ y, y = d := ⟨_, rfl⟩
    repeat' (first | (apply gL; first | (apply Wl.ev rfl rfl; (focus (first | exact ev_move rfl | exact ev_assign rfl | (apply gBin; first | exact ev_eqi rfl rfl | exact ev_lti rfl rfl | exact ev_add64 rfl rfl (by omega)) | (apply gCal; first | exact ev_len_string (strT rfl) rfl) | (apply gIdx; first | exact (ev_index_string (strT rfl) rfl rfl (by omega)).to (congrArg by8 hd') | exact (ev_index_string (strT rfl) rfl rfl (by omega)).to (congrArg by8 hc))))) | (refine wl_append_own (m := out.length) (k := 1) (o := o) (xs := bytV out) (news := [by8 y]) rfl rfl (slT rfl) (szT rfl) (byT rfl) (zeroT rfl) rfl rfl rfl hok (by repeat (first | exact List.Mem.head _ | apply List.Mem.tail)) rfl (fun j v h => by simpa using h) (by simp [Value.oneCell']) (by omega) (by simp only [maxLen]; omega) (by omega) (by repeat (first | exact TailUp.here | apply TailUp.there)) ?_; intro o2 hok2) | apply Wl.nil | (apply wl_buildSlice rfl rfl (slT rfl) (szT rfl) (zeroT rfl) rfl (by decide) rfl; (focus (simp [fillP, List.range_succ]; rfl)); intro b)) | (apply gQ; first | (apply Wq.ev rfl rfl; (focus (first | exact ev_move rfl | exact ev_assign rfl | (apply gBin; first | exact ev_eqi rfl rfl | exact ev_lti rfl rfl | exact ev_add64 rfl rfl (by omega)) | (apply gCal; first | exact ev_len_string (strT rfl) rfl) | (apply gIdx; first | exact (ev_index_string (strT rfl) rfl rfl (by omega)).to (congrArg by8 hd') | exact (ev_index_string (strT rfl) rfl rfl (by omega)).to (congrArg by8 hc)))))) | ((show W _ _ _ _ _ _ _ _ _); first | apply W.seq | apply W.region | apply W.block | apply W.blk | apply W.skip | (refine W.cond rfl ?_ ?_ <;> (intro h; try (exfalso; first | contradiction | omega | exact h rfl | exact h ⟨rfl, rfl⟩ | (exact Bool.false_ne_true ((by assumption : _ = false).symm.trans h)) | (exact Bool.false_ne_true (h.symm.trans (by assumption))))))))
    all_goals first
      | exact W.again (out ++ [y], nx, o2) ⟨by show nx ≤ B.length; omega, gq_out hun hst2, by rw [bytV_snoc, List.length_append]; exact hok2, by show (out ++ [y]).length ≤ nx; rw [List.length_append]; simp only [List.length_singleton]; omega⟩ (by show B.length - nx < B.length - i; omega) (by show SubL [_, _, (5, ownV (out ++ [y]).length o2), (6, .int .i64 ((nx : Nat) : Int))] _; rw [List.length_append, hnx]; exact (by repeat (first | exact SubL.nil | refine SubL.cons rfl ?_))) (by repeat (first | exact SubH.nil | apply SubH.keep | apply SubH.drop | exact List.Sublist.refl _ | exact List.sublist_append_left _ _))
      | (exfalso; omega)
      | fail
  have d34 : d ≠ 34 := fun e => hq (.inl (by rw [e]; rfl))
  have d92 : d ≠ 92 := fun e => hq (.inr (by rw [e]; rfl))
  by_cases d110 : (d.toNat : Int) = 110
  · have hst2 : unqG (B.drop i) = (unqG (B.drop (i + 1 + 1))).map ([10] ++ ·) := by
      rw [ed, show d = 110 from UInt8.toNat_inj.1 (by have : (110 : UInt8).toNat = 110 := rfl; omega)]
      exact unqG_nl _
    obtain ⟨nx, hnx⟩ : ∃ nx, nx = i + 1 + 1 := ⟨_, rfl⟩
    rw [← hnx] at hst2
    have hnx : (nx : Int) = (i : Int) + 1 + 1 := by omega
    repeat' (first | (apply gL; first | (apply Wl.ev rfl rfl; (focus (first | exact ev_move rfl | exact ev_assign rfl | (apply gBin; first | exact ev_eqi rfl rfl | exact ev_lti rfl rfl | exact ev_add64 rfl rfl (by omega)) | (apply gCal; first | exact ev_len_string (strT rfl) rfl) | (apply gIdx; first | exact (ev_index_string (strT rfl) rfl rfl (by omega)).to (congrArg by8 hd') | exact (ev_index_string (strT rfl) rfl rfl (by omega)).to (congrArg by8 hc))))) | (refine wl_append_own (m := out.length) (k := 1) (o := o) (xs := bytV out) (news := [.int .u8 10]) rfl rfl (slT rfl) (szT rfl) (byT rfl) (zeroT rfl) rfl rfl rfl hok (by repeat (first | exact List.Mem.head _ | apply List.Mem.tail)) rfl (fun j v h => by simpa using h) (by simp [Value.oneCell']) (by omega) (by simp only [maxLen]; omega) (by omega) (by repeat (first | exact TailUp.here | apply TailUp.there)) ?_; intro o2 hok2) | apply Wl.nil | (apply wl_buildSlice rfl rfl (slT rfl) (szT rfl) (zeroT rfl) rfl (by decide) rfl; (focus (simp [fillP, List.range_succ]; rfl)); intro b)) | (apply gQ; first | (apply Wq.ev rfl rfl; (focus (first | exact ev_move rfl | exact ev_assign rfl | (apply gBin; first | exact ev_eqi rfl rfl | exact ev_lti rfl rfl | exact ev_add64 rfl rfl (by omega)) | (apply gCal; first | exact ev_len_string (strT rfl) rfl) | (apply gIdx; first | exact (ev_index_string (strT rfl) rfl rfl (by omega)).to (congrArg by8 hd') | exact (ev_index_string (strT rfl) rfl rfl (by omega)).to (congrArg by8 hc)))))) | ((show W _ _ _ _ _ _ _ _ _); first | apply W.seq | apply W.region | apply W.block | apply W.blk | apply W.skip | (refine W.cond rfl ?_ ?_ <;> (intro h; try (exfalso; first | contradiction | omega | exact h rfl | exact h ⟨rfl, rfl⟩ | (exact Bool.false_ne_true ((by assumption : _ = false).symm.trans h)) | (exact Bool.false_ne_true (h.symm.trans (by assumption))))))))
    all_goals first
      | exact W.again (out ++ [10], nx, o2) ⟨by show nx ≤ B.length; omega, gq_out hun hst2, by rw [bytV_snoc, List.length_append]; exact hok2, by show (out ++ [10]).length ≤ nx; rw [List.length_append]; simp only [List.length_singleton]; omega⟩ (by show B.length - nx < B.length - i; omega) (by show SubL [_, _, (5, ownV (out ++ [10]).length o2), (6, .int .i64 ((nx : Nat) : Int))] _; rw [List.length_append, hnx]; exact (by repeat (first | exact SubL.nil | refine SubL.cons rfl ?_))) (by repeat (first | exact SubH.nil | apply SubH.keep | apply SubH.drop | exact List.Sublist.refl _ | exact List.sublist_append_left _ _))
      | (exfalso; omega)
      | fail
  have hd110 : d ≠ 110 := fun e => d110 (by rw [e]; rfl)
  by_cases d120 : (d.toNat : Int) = 120
  case neg =>
    have hno := no (by rw [ed]; exact unqG_other _ (by rintro (h | h); exact d34 h; exact d92 h) hd110 (fun e => d120 (by rw [e]; rfl)))
    repeat' (first | (apply gL; first | (apply Wl.ev rfl rfl; (focus (first | exact ev_move rfl | exact ev_assign rfl | (apply gBin; first | exact ev_eqi rfl rfl | exact ev_lti rfl rfl | exact ev_add64 rfl rfl (by omega)) | (apply gCal; first | exact ev_len_string (strT rfl) rfl) | (apply gIdx; first | exact (ev_index_string (strT rfl) rfl rfl (by omega)).to (congrArg by8 hd') | exact (ev_index_string (strT rfl) rfl rfl (by omega)).to (congrArg by8 hc))))) | apply Wl.nil) | (apply gQ; first | (apply Wq.ev rfl rfl; (focus (first | exact ev_move rfl | exact ev_assign rfl | (apply gBin; first | exact ev_eqi rfl rfl | exact ev_lti rfl rfl | exact ev_add64 rfl rfl (by omega)) | (apply gCal; first | exact ev_len_string (strT rfl) rfl) | (apply gIdx; first | exact (ev_index_string (strT rfl) rfl rfl (by omega)).to (congrArg by8 hd') | exact (ev_index_string (strT rfl) rfl rfl (by omega)).to (congrArg by8 hc)))))) | ((show W _ _ _ _ _ _ _ _ _); first | apply W.seq | apply W.region | apply W.block | apply W.skip | (refine W.cond rfl ?_ ?_ <;> (intro h; try (exfalso; first | contradiction | omega | exact h rfl | exact h ⟨rfl, rfl⟩ | (exact Bool.false_ne_true ((by assumption : _ = false).symm.trans h)) | (exact Bool.false_ne_true (h.symm.trans (by assumption)))))) | (refine W.ret2 rfl rfl rfl ?_; intro w hs)))
    all_goals first | exact tx_no hs hno | (exfalso; omega) | fail
  rw [show d = 120 from UInt8.toNat_inj.1 (by have : (120 : UInt8).toNat = 120 := rfl; omega)] at ed
  by_cases hsh : i + 1 + 2 ≥ B.length
  · have hno := no (by rw [ed]; exact unqG_short _ (by rw [List.length_drop]; omega))
    repeat' (first | (apply gL; first | (apply Wl.ev rfl rfl; (focus (first | exact ev_move rfl | exact ev_assign rfl | (apply gBin; first | exact ev_eqi rfl rfl | exact ev_lti rfl rfl | exact ev_gei rfl rfl | exact ev_add64 rfl rfl (by omega)) | (apply gCal; first | exact ev_len_string (strT rfl) rfl) | (apply gIdx; first | exact (ev_index_string (strT rfl) rfl rfl (by omega)).to (congrArg by8 hd') | exact (ev_index_string (strT rfl) rfl rfl (by omega)).to (congrArg by8 hc))))) | apply Wl.nil) | (apply gQ; first | (apply Wq.ev rfl rfl; (focus (first | exact ev_move rfl | exact ev_assign rfl | (apply gBin; first | exact ev_eqi rfl rfl | exact ev_lti rfl rfl | exact ev_gei rfl rfl | exact ev_add64 rfl rfl (by omega)) | (apply gCal; first | exact ev_len_string (strT rfl) rfl) | (apply gIdx; first | exact (ev_index_string (strT rfl) rfl rfl (by omega)).to (congrArg by8 hd') | exact (ev_index_string (strT rfl) rfl rfl (by omega)).to (congrArg by8 hc)))))) | ((show W _ _ _ _ _ _ _ _ _); first | apply W.seq | apply W.region | apply W.block | apply W.skip | (refine W.cond rfl ?_ ?_ <;> (intro h; try (exfalso; first | contradiction | omega | exact h rfl | exact h ⟨rfl, rfl⟩ | (exact Bool.false_ne_true ((by assumption : _ = false).symm.trans h)) | (exact Bool.false_ne_true (h.symm.trans (by assumption)))))) | (refine W.ret2 rfl rfl rfl ?_; intro w hs)))
    all_goals first | exact tx_no hs hno | (exfalso; omega) | fail
  have ed3 := drop_cons (d := 0) (show i + 1 + 1 < B.length by omega)
  have ed4 := drop_cons (d := 0) (show i + 1 + 1 + 1 < B.length by omega)
  obtain ⟨a, ha⟩ : ∃ a, B.getD (i + 1 + 1) 0 = a := ⟨_, rfl⟩
  obtain ⟨b, hb⟩ : ∃ b, B.getD (i + 1 + 1 + 1) 0 = b := ⟨_, rfl⟩
  rw [ha] at ed3
  rw [hb] at ed4
  rw [ed4] at ed3
  rw [ed3] at ed
  have hcut : st ((B.take ((i : Int) + 1 + 3).toNat).drop ((i : Int) + 1 + 1).toNat) = st [a, b] := by
    rw [show ((i : Int) + 1 + 3).toNat = i + 1 + 1 + 2 by omega, show ((i : Int) + 1 + 1).toNat = i + 1 + 1 by omega, List.drop_take, ed3, show i + 1 + 1 + 2 - (i + 1 + 1) = 2 by omega]
    rfl
  have hux : ∀ w, Calls Tryd.prog 69 #[st [a, b]] w (bytR [a, b] w) := fun w => unhex28_ok [a, b] (by simp) w
  unfold bytR at hux
  rw [byts_pair] at hux
  have hxx := unqG_x a b (B.drop (i + 1 + 1 + 1 + 1))
  rw [← ed] at hxx
  cases hp : pairS a b with
  | none =>
    rw [hp] at hux hxx
    have hno := no hxx
    dsimp only [Option.map] at hux
    repeat' (first | (apply gL; first | (apply Wl.ev rfl rfl; (focus (first | exact ev_move rfl | exact ev_assign rfl | (apply gBin; first | exact ev_eqi rfl rfl | exact ev_lti rfl rfl | exact ev_gei rfl rfl | exact ev_add64 rfl rfl (by omega)) | exact ev_notF rfl | exact ev_extract rfl rfl | (apply gCal; first | exact ev_len_string (strT rfl) rfl) | (apply gIdx; first | exact (ev_index_string (strT rfl) rfl rfl (by omega)).to (congrArg by8 hd') | exact (ev_index_string (strT rfl) rfl rfl (by omega)).to (congrArg by8 hc)) | (apply gSli; first | exact (ev_slice_string (strT rfl) rfl rfl rfl (by first | omega | (simp; done) | (simp; omega) | (simp [*]; done) | (simp [*]; omega) | (simp_all; done) | (simp_all; omega))).to hcut)))) | ((show Wl _ _ _ _ _ _ _ (⟨some 76, .call _, _, _, _, _⟩ :: _) _ _); refine wl_callX rfl rfl has69 rfl (fun w hs => hux w) ?_; rintro ⟨ub, uo⟩ ⟨u1, u2, u3⟩; dsimp only at u1 u2 u3 ⊢; try simp only [ents_owN]) | apply Wl.nil) | (apply gQ; first | (apply Wq.ev rfl rfl; (focus (first | exact ev_move rfl | exact ev_assign rfl | (apply gBin; first | exact ev_eqi rfl rfl | exact ev_lti rfl rfl | exact ev_gei rfl rfl | exact ev_add64 rfl rfl (by omega)) | exact ev_notF rfl | exact ev_extract rfl rfl | (apply gCal; first | exact ev_len_string (strT rfl) rfl) | (apply gIdx; first | exact (ev_index_string (strT rfl) rfl rfl (by omega)).to (congrArg by8 hd') | exact (ev_index_string (strT rfl) rfl rfl (by omega)).to (congrArg by8 hc)) | (apply gSli; first | exact (ev_slice_string (strT rfl) rfl rfl rfl (by first | omega | (simp; done) | (simp; omega) | (simp [*]; done) | (simp [*]; omega) | (simp_all; done) | (simp_all; omega))).to hcut))))) | ((show W _ _ _ _ _ _ _ _ _); first | apply W.seq | apply W.region | apply W.block | apply W.skip | (refine W.condT rfl ?_) | (refine W.cond rfl ?_ ?_ <;> (intro h; try (exfalso; first | contradiction | omega | exact h rfl | exact h ⟨rfl, rfl⟩ | (exact Bool.false_ne_true ((by assumption : _ = false).symm.trans h)) | (exact Bool.false_ne_true (h.symm.trans (by assumption)))))) | (refine W.ret2 rfl rfl rfl ?_; intro w hs)))
    all_goals first | exact tx_no hs hno | contradiction | (exfalso; omega) | fail
  | some y =>
    rw [hp] at hux hxx
    dsimp only [Option.map] at hux
    have hst2 : unqG (B.drop i) = (unqG (B.drop (i + 1 + 1 + 1 + 1))).map ([y] ++ ·) := hxx
    obtain ⟨nx, hnx⟩ : ∃ nx, nx = i + 1 + 1 + 1 + 1 := ⟨_, rfl⟩
    rw [← hnx] at hst2
    have hnx : (nx : Int) = (i : Int) + 1 + 2 + 1 := by omega
    repeat' (first | (apply gL; first | (apply Wl.ev rfl rfl; (focus (first | exact ev_move rfl | (apply gLoa; first | exact ev_loadAt (agT rfl) rfl (by repeat (first | exact List.Mem.head _ | apply List.Mem.tail)) (own_at (v := by8 y) u1 rfl)) | exact ev_assign rfl | (apply gBin; first | exact ev_eqi rfl rfl | exact ev_lti rfl rfl | exact ev_gei rfl rfl | exact ev_add64 rfl rfl (by omega)) | exact ev_notT rfl | exact ev_extract rfl rfl | (apply gCal; first | exact ev_len_string (strT rfl) rfl) | (apply gIxA; first | exact ev_indexAddr (m := 1) (slT rfl) (szT rfl) rfl rfl (by omega)) | (apply gIdx; first | exact (ev_index_string (strT rfl) rfl rfl (by omega)).to (congrArg by8 hd') | exact (ev_index_string (strT rfl) rfl rfl (by omega)).to (congrArg by8 hc)) | (apply gSli; first | exact (ev_slice_string (strT rfl) rfl rfl rfl (by first | omega | (simp; done) | (simp; omega) | (simp [*]; done) | (simp [*]; omega) | (simp_all; done) | (simp_all; omega))).to hcut)))) | ((show Wl _ _ _ _ _ _ _ (⟨some 76, .call _, _, _, _, _⟩ :: _) _ _); refine wl_callX rfl rfl has69 rfl (fun w hs => hux w) ?_; rintro ⟨ub, uo⟩ ⟨u1, u2, u3⟩; dsimp only at u1 u2 u3; obtain rfl : ub = [y] := u3 _ rfl; obtain ⟨q, qc, qq, rfl, _⟩ := own_some u1 (by simp); try simp only [ents_owN, ownH, List.cons_append, List.nil_append]) | (refine wl_append_own (m := out.length) (k := 1) (o := o) (xs := bytV out) (news := [by8 y]) rfl rfl (slT rfl) (szT rfl) (byT rfl) (zeroT rfl) rfl rfl rfl hok (by repeat (first | exact List.Mem.head _ | apply List.Mem.tail)) rfl (fun j v h => by simpa using h) (by simp [Value.oneCell']) (by omega) (by simp only [maxLen]; omega) (by omega) (by repeat (first | exact TailUp.here | apply TailUp.there)) ?_; intro o2 hok2) | apply Wl.nil | (apply wl_buildSlice rfl rfl (slT rfl) (szT rfl) (zeroT rfl) rfl (by decide) rfl; (focus (simp [fillP, List.range_succ]; rfl)); intro b)) | (apply gQ; first | (apply Wq.ev rfl rfl; (focus (first | exact ev_move rfl | (apply gLoa; first | exact ev_loadAt (agT rfl) rfl (by repeat (first | exact List.Mem.head _ | apply List.Mem.tail)) (own_at (v := by8 y) u1 rfl)) | exact ev_assign rfl | (apply gBin; first | exact ev_eqi rfl rfl | exact ev_lti rfl rfl | exact ev_gei rfl rfl | exact ev_add64 rfl rfl (by omega)) | exact ev_notT rfl | exact ev_extract rfl rfl | (apply gCal; first | exact ev_len_string (strT rfl) rfl) | (apply gIxA; first | exact ev_indexAddr (m := 1) (slT rfl) (szT rfl) rfl rfl (by omega)) | (apply gIdx; first | exact (ev_index_string (strT rfl) rfl rfl (by omega)).to (congrArg by8 hd') | exact (ev_index_string (strT rfl) rfl rfl (by omega)).to (congrArg by8 hc)) | (apply gSli; first | exact (ev_slice_string (strT rfl) rfl rfl rfl (by first | omega | (simp; done) | (simp; omega) | (simp [*]; done) | (simp [*]; omega) | (simp_all; done) | (simp_all; omega))).to hcut))))) | ((show W _ _ _ _ _ _ _ _ _); first | apply W.seq | apply W.region | apply W.block | apply W.blk | apply W.skip | (refine W.condF rfl ?_) | (refine W.cond rfl ?_ ?_ <;> (intro h; try (exfalso; first | contradiction | omega | exact h rfl | exact h ⟨rfl, rfl⟩ | (exact Bool.false_ne_true ((by assumption : _ = false).symm.trans h)) | (exact Bool.false_ne_true (h.symm.trans (by assumption))))))))
    all_goals first
      | exact W.again (out ++ [y], nx, o2) ⟨by show nx ≤ B.length; omega, gq_out hun hst2, by rw [bytV_snoc, List.length_append]; exact hok2, by show (out ++ [y]).length ≤ nx; rw [List.length_append]; simp only [List.length_singleton]; omega⟩ (by show B.length - nx < B.length - i; omega) (by show SubL [_, _, (5, ownV (out ++ [y]).length o2), (6, .int .i64 ((nx : Nat) : Int))] _; rw [List.length_append, hnx]; exact (by repeat (first | exact SubL.nil | refine SubL.cons rfl ?_))) (by repeat (first | exact SubH.nil | apply SubH.keep | apply SubH.drop | exact List.Sublist.refl _ | exact List.sublist_append_left _ _))
      | contradiction
      | (exfalso; omega)
      | fail
end Go.Proofs.YtdnicbbandbdbaaDoor
