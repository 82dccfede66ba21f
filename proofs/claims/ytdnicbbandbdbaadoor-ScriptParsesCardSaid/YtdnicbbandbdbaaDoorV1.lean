/- Walks: the document's numbers, bytes, words, lines. No condition. -/
import Derived.Test.YtdnicbbandbdbaaDoorSN
import Derived.Test.YtdnicbbandbdbaaDoorEJ
namespace Go.PB
open Go.RowKit
section
variable {P : Program} {M : List Nat} {w0 : World} {n : Nat} {D : List Deferred} {L : List (Nat × Value)} {H : List Ent} {t t' oty : TypeId} {x : Operand}
theorem ev_strInt {k : IntKind} {m : Int} (hs : ∃ d, P.underlying t = some d) (ht : P.underlying t' = some .string) (hx : evo L x = some (.int k m)) (hm : 0 ≤ m ∧ m < 128) : Ev P M w0 n D L H (.convert t t' x) oty (.string ⟨[m.toNat.toUInt8].toArray⟩) :=
  by
    unfold Ev
    intro a w hf _ _ _ _ _
    obtain ⟨d, hd⟩ := hs
    have he : Utf8.encode m = ⟨[m.toNat.toUInt8].toArray⟩ := by
      unfold Utf8.encode
      have hv : Utf8.valid m = true := by unfold Utf8.valid; simp; omega
      simp only [hv, if_true]
      rw [if_pos (by omega)]
    simp only [execOp, hf.eval hx, convert, Sem.run_bind, run_underlying hd, run_underlying ht, Result.andThen_ok]
    cases d <;> simp [Conv.intToString, he]
end
end Go.PB
namespace Go.Proofs.YtdnicbbandbdbaaDoor
open Go.PB Go.RowKit
attribute [local irreducible] Go.Calls
theorem quo_nn (m j : Int) (hm : 0 ≤ m) (hj : 0 < j) (hb : m < 9223372036854775808) : Value.int .i64 (IntKind.i64.wrap (m.tdiv j)) = .int .i64 (m / j) := by
  have h1 : m.tdiv j = m / j := Int.tdiv_eq_ediv_of_nonneg hm
  have h2 : 0 ≤ m / j := Int.ediv_nonneg hm (by omega)
  have h3 : m / j ≤ m := Int.ediv_le_self _ hm
  rw [h1, wrap64_in (by omega)]
theorem rem_nn (m j : Int) (hm : 0 ≤ m) : Value.int .i64 (m.tmod j) = .int .i64 (m % j) := by rw [Int.tmod_eq_emod_of_nonneg hm]
theorem dg20 {k : Nat} (h : k < 9223372036854775808) : (Lib.decDigits k).length ≤ 20 := by
  have := itoa_len20 (n := (k : Int)) (by unfold inI64; omega)
  unfold Lib.itoa at this
  rwa [if_neg (by omega), Int.toNat_natCast] at this
theorem number28_ok (n : Int) (hn : -9223372036854775808 < n ∧ n ≤ 9223372036854775807) (w : World) : Calls Tryd.prog 37 #[.int .i64 n] w (Give (st (Lib.itoa n)) w) := by
  refine give_of_W (vs := [.int .i64 n]) Tryd.func37 rfl Tryd.ntmps37 (Nat.le_of_ble_eq_true rfl) (St.nil w _) ?_
  simp only [argL]
  obtain ⟨k, hk⟩ : ∃ k : Nat, n.natAbs = k := ⟨_, rfl⟩
  have hkl := dg20 (k := k) (by omega)
  by_cases hs : n < 0
  · have hz : -n = (k : Int) := by omega
    have hi : Lib.itoa n = 45 :: Lib.decDigits k := by unfold Lib.itoa; rw [if_pos hs, hk]
    repeat' (first | (apply gL; first | (apply Wl.ev rfl rfl; (focus (first | exact ev_move rfl | exact ev_assign rfl | (apply gBin; first | exact (ev_lti rfl rfl).to (show _ = Value.bool true from congrArg Value.bool (decide_eq_true hs))) | (apply gUn; first | exact ev_neg64 rfl (by omega))))) | apply Wl.nil) | (apply gQ; first | (apply Wq.ev rfl rfl; (focus (first | exact ev_move rfl | exact ev_assign rfl | (apply gBin; first | exact (ev_lti rfl rfl).to (show _ = Value.bool true from congrArg Value.bool (decide_eq_true hs))) | (apply gUn; first | exact ev_neg64 rfl (by omega)))))) | ((show W _ _ _ _ _ _ _ _ _); first | apply W.seq | apply W.region | apply W.block | (refine W.condT rfl ?_)) | (simp only [hz]; refine W.loop (X := Nat × List UInt8) (fun x => [(0, .int .i64 (x.1 : Nat)), (3, st x.2), (4, .bool true)]) (fun _ => []) (fun x => Lib.decDigits k = Lib.decDigits x.1 ++ x.2 ∧ x.1 ≤ k) (fun x => x.1) (k, []) ⟨by simp, Nat.le_refl _⟩ (by repeat (first | exact SubL.nil | refine SubL.cons rfl ?_)) (by repeat (first | exact SubH.nil | apply SubH.keep | apply SubH.drop | exact List.Sublist.refl _ | exact List.sublist_append_left _ _)) ?_))
    all_goals try (exfalso; omega)
    rintro ⟨m, s⟩ ⟨h1, h2⟩
    dsimp only at h1 h2 ⊢
    have hsl : (Lib.decDigits m).length + s.length ≤ 20 := by rw [← List.length_append, ← h1]; exact hkl
    by_cases hm : m < 10
    · repeat' (first | (apply gL; first | (apply Wl.ev rfl rfl; (focus (first | exact ev_move rfl | exact ev_assign rfl | (apply gBin; first | exact ev_gti rfl rfl | exact ev_add64 rfl rfl (by omega) | exact ev_cat rfl rfl (by (first | omega | (simp; omega)))) | (apply gCon; first | exact ev_convK (dT rfl) (intT rfl) rfl (by first | exact wrap64_in (by omega) | exact IntWalk.u8_in _ (by omega) | exact IntWalk.i32_in _ (by omega))) | exact (ev_strInt (dT rfl) (strT rfl) rfl (by omega))))) | apply Wl.nil) | (apply gQ; first | (apply Wq.ev rfl rfl; (focus (first | exact ev_move rfl | exact ev_assign rfl | (apply gBin; first | exact ev_gti rfl rfl | exact ev_add64 rfl rfl (by omega) | exact ev_cat rfl rfl (by (first | omega | (simp; omega)))) | (apply gCon; first | exact ev_convK (dT rfl) (intT rfl) rfl (by first | exact wrap64_in (by omega) | exact IntWalk.u8_in _ (by omega) | exact IntWalk.i32_in _ (by omega))) | exact (ev_strInt (dT rfl) (strT rfl) rfl (by omega)))))) | ((show W _ _ _ _ _ _ _ _ _); first | apply W.seq | apply W.region | (refine W.exit rfl ?_) | (refine W.condT rfl ?_) | (refine W.cond rfl ?_ ?_ <;> (intro h; try (exfalso; first | contradiction | omega | exact h rfl | exact h ⟨rfl, rfl⟩ | (exact Bool.false_ne_true ((by assumption : _ = false).symm.trans h)) | (exact Bool.false_ne_true (h.symm.trans (by assumption)))))) | (refine W.ret1 rfl rfl ?_; intro w hs)))
      exact ret_eq hs (by rw [hi, h1, Lib.decDigits_one hm]; simp [show ((48 : Int) + m).toNat = 48 + m by omega])
    · have hd : Lib.decDigits m = Lib.decDigits (m / 10) ++ [UInt8.ofNat (48 + m % 10)] := by rw [Lib.decDigits, dif_neg hm]
      repeat' (first | (apply gL; first | (apply Wl.ev rfl rfl; (focus (first | exact ev_move rfl | exact ev_assign rfl | (apply gBin; first | exact (ev_rem rfl rfl (by decide)).to (rem_nn _ _ (by omega)) | exact (ev_quo rfl rfl (by decide)).to (quo_nn _ _ (by omega) (by omega) (by omega)) | exact ev_gti rfl rfl | exact ev_add64 rfl rfl (by omega) | exact ev_cat rfl rfl (by (first | omega | (simp; omega)))) | (apply gCon; first | exact ev_convK (dT rfl) (intT rfl) rfl (by first | exact wrap64_in (by omega) | exact IntWalk.u8_in _ (by omega) | exact IntWalk.i32_in _ (by omega))) | exact (ev_strInt (dT rfl) (strT rfl) rfl (by omega))))) | apply Wl.nil) | (apply gQ; first | (apply Wq.ev rfl rfl; (focus (first | exact ev_move rfl | exact ev_assign rfl | (apply gBin; first | exact (ev_rem rfl rfl (by decide)).to (rem_nn _ _ (by omega)) | exact (ev_quo rfl rfl (by decide)).to (quo_nn _ _ (by omega) (by omega) (by omega)) | exact ev_gti rfl rfl | exact ev_add64 rfl rfl (by omega) | exact ev_cat rfl rfl (by (first | omega | (simp; omega)))) | (apply gCon; first | exact ev_convK (dT rfl) (intT rfl) rfl (by first | exact wrap64_in (by omega) | exact IntWalk.u8_in _ (by omega) | exact IntWalk.i32_in _ (by omega))) | exact (ev_strInt (dT rfl) (strT rfl) rfl (by omega)))))) | ((show W _ _ _ _ _ _ _ _ _); first | apply W.seq | (refine W.again (m / 10, UInt8.ofNat (48 + m % 10) :: s) ?_ ?_ (by repeat (first | exact SubL.nil | refine SubL.cons rfl ?_)) (by repeat (first | exact SubH.nil | apply SubH.keep | apply SubH.drop | exact List.Sublist.refl _ | exact List.sublist_append_left _ _))) | apply W.region | apply W.block | apply W.blk | apply W.skip | (refine W.cond rfl ?_ ?_ <;> (intro h; try (exfalso; first | contradiction | omega | exact h rfl | exact h ⟨rfl, rfl⟩ | (exact Bool.false_ne_true ((by assumption : _ = false).symm.trans h)) | (exact Bool.false_ne_true (h.symm.trans (by assumption))))))))
      · exact ⟨by rw [h1, hd, List.append_assoc]; rfl, by simp; omega⟩
      · simp; omega
  · have hi : Lib.itoa n = Lib.decDigits k := by unfold Lib.itoa; rw [if_neg hs]; congr 1; omega
    have hnk : n = (k : Int) := by omega
    subst hnk
    repeat' (first | (apply gL; first | (apply Wl.ev rfl rfl; (focus (first | exact ev_move rfl | exact ev_assign rfl | (apply gBin; first | exact (ev_lti rfl rfl).to (show _ = Value.bool false from congrArg Value.bool (decide_eq_false hs)))))) | apply Wl.nil) | (apply gQ; first | (apply Wq.ev rfl rfl; (focus (first | exact ev_move rfl | exact ev_assign rfl | (apply gBin; first | exact (ev_lti rfl rfl).to (show _ = Value.bool false from congrArg Value.bool (decide_eq_false hs))))))) | ((show W _ _ _ _ _ _ _ _ _); first | apply W.seq | (refine W.loop (X := Nat × List UInt8) (fun x => [(0, .int .i64 (x.1 : Nat)), (3, st x.2), (4, .bool false)]) (fun _ => []) (fun x => Lib.decDigits k = Lib.decDigits x.1 ++ x.2 ∧ x.1 ≤ k) (fun x => x.1) (k, []) ⟨by simp, Nat.le_refl _⟩ (by repeat (first | exact SubL.nil | refine SubL.cons rfl ?_)) (by repeat (first | exact SubH.nil | apply SubH.keep | apply SubH.drop | exact List.Sublist.refl _ | exact List.sublist_append_left _ _)) ?_) | apply W.region | apply W.block | apply W.skip | (refine W.condF rfl ?_)))
    all_goals try (exfalso; omega)
    rintro ⟨m, s⟩ ⟨h1, h2⟩
    dsimp only at h1 h2 ⊢
    have hsl : (Lib.decDigits m).length + s.length ≤ 20 := by rw [← List.length_append, ← h1]; exact hkl
    by_cases hm : m < 10
    · repeat' (first | (apply gL; first | (apply Wl.ev rfl rfl; (focus (first | exact ev_move rfl | exact ev_assign rfl | (apply gBin; first | exact ev_gti rfl rfl | exact ev_add64 rfl rfl (by omega) | exact ev_cat rfl rfl (by (first | omega | (simp; omega)))) | (apply gCon; first | exact ev_convK (dT rfl) (intT rfl) rfl (by first | exact wrap64_in (by omega) | exact IntWalk.u8_in _ (by omega) | exact IntWalk.i32_in _ (by omega))) | exact (ev_strInt (dT rfl) (strT rfl) rfl (by omega))))) | apply Wl.nil) | (apply gQ; first | (apply Wq.ev rfl rfl; (focus (first | exact ev_move rfl | exact ev_assign rfl | (apply gBin; first | exact ev_gti rfl rfl | exact ev_add64 rfl rfl (by omega) | exact ev_cat rfl rfl (by (first | omega | (simp; omega)))) | (apply gCon; first | exact ev_convK (dT rfl) (intT rfl) rfl (by first | exact wrap64_in (by omega) | exact IntWalk.u8_in _ (by omega) | exact IntWalk.i32_in _ (by omega))) | exact (ev_strInt (dT rfl) (strT rfl) rfl (by omega)))))) | ((show W _ _ _ _ _ _ _ _ _); first | apply W.seq | apply W.region | apply W.skip | (refine W.exit rfl ?_) | (refine W.condF rfl ?_) | (refine W.cond rfl ?_ ?_ <;> (intro h; try (exfalso; first | contradiction | omega | exact h rfl | exact h ⟨rfl, rfl⟩ | (exact Bool.false_ne_true ((by assumption : _ = false).symm.trans h)) | (exact Bool.false_ne_true (h.symm.trans (by assumption)))))) | (refine W.ret1 rfl rfl ?_; intro w hs)))
      exact ret_eq hs (by rw [hi, h1, Lib.decDigits_one hm]; simp [show ((48 : Int) + m).toNat = 48 + m by omega])
    · have hd : Lib.decDigits m = Lib.decDigits (m / 10) ++ [UInt8.ofNat (48 + m % 10)] := by rw [Lib.decDigits, dif_neg hm]
      repeat' (first | (apply gL; first | (apply Wl.ev rfl rfl; (focus (first | exact ev_move rfl | exact ev_assign rfl | (apply gBin; first | exact (ev_rem rfl rfl (by decide)).to (rem_nn _ _ (by omega)) | exact (ev_quo rfl rfl (by decide)).to (quo_nn _ _ (by omega) (by omega) (by omega)) | exact ev_gti rfl rfl | exact ev_add64 rfl rfl (by omega) | exact ev_cat rfl rfl (by (first | omega | (simp; omega)))) | (apply gCon; first | exact ev_convK (dT rfl) (intT rfl) rfl (by first | exact wrap64_in (by omega) | exact IntWalk.u8_in _ (by omega) | exact IntWalk.i32_in _ (by omega))) | exact (ev_strInt (dT rfl) (strT rfl) rfl (by omega))))) | apply Wl.nil) | (apply gQ; first | (apply Wq.ev rfl rfl; (focus (first | exact ev_move rfl | exact ev_assign rfl | (apply gBin; first | exact (ev_rem rfl rfl (by decide)).to (rem_nn _ _ (by omega)) | exact (ev_quo rfl rfl (by decide)).to (quo_nn _ _ (by omega) (by omega) (by omega)) | exact ev_gti rfl rfl | exact ev_add64 rfl rfl (by omega) | exact ev_cat rfl rfl (by (first | omega | (simp; omega)))) | (apply gCon; first | exact ev_convK (dT rfl) (intT rfl) rfl (by first | exact wrap64_in (by omega) | exact IntWalk.u8_in _ (by omega) | exact IntWalk.i32_in _ (by omega))) | exact (ev_strInt (dT rfl) (strT rfl) rfl (by omega)))))) | ((show W _ _ _ _ _ _ _ _ _); first | apply W.seq | (refine W.again (m / 10, UInt8.ofNat (48 + m % 10) :: s) ?_ ?_ (by repeat (first | exact SubL.nil | refine SubL.cons rfl ?_)) (by repeat (first | exact SubH.nil | apply SubH.keep | apply SubH.drop | exact List.Sublist.refl _ | exact List.sublist_append_left _ _))) | apply W.region | apply W.block | apply W.blk | apply W.skip | (refine W.cond rfl ?_ ?_ <;> (intro h; try (exfalso; first | contradiction | omega | exact h rfl | exact h ⟨rfl, rfl⟩ | (exact Bool.false_ne_true ((by assumption : _ = false).symm.trans h)) | (exact Bool.false_ne_true (h.symm.trans (by assumption))))))))
      · exact ⟨by rw [h1, hd, List.append_assoc]; rfl, by simp; omega⟩
      · simp; omega
end Go.Proofs.YtdnicbbandbdbaaDoor
