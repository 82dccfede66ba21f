/- Walks: the document's number as a token; replacements in the document's form. No condition. -/
import Derived.Test.YthhfandandfeeaaDoorDA
import Derived.Test.YthhfandandfeeaaDoorMC
import Derived.Test.YthhfandandfeeaaDoorS2
namespace Go.Proofs.YthhfandandfeeaaDoor
open Go.PB Go.RowKit
attribute [local irreducible] Go.Calls
/-- an int as a token, at a place -/
def numA (m a ln : Nat) : Tk := ⟨2, Lib.decDigits m, (m : Int) * 65536, a, ln⟩
def bodyA (V : Wds) (n : Nm) (ln a l2 : Nat) : List Tk := if n = nLINE then [numA (ln + 1) a l2] else if n = nVER then [numA 100 a l2] else (wget V n).getD []
theorem numA_stay {V : Wds} {a ln a2 l2 f d m : Nat} {wi : List Nm} : expF V a ln f wi d (numA m a2 l2) = expF V a ln f wi d (numT m) := by
  cases f with
  | zero => rfl
  | succ f =>
    rw [expF_stay (.inl (by simp [numA])), expF_stay (.inl (by simp [numT]))]
    rfl
theorem runL_body {V : Wds} {a ln a2 l2 f d : Nat} {wi : List Nm} {n : Nm} : runL (expF V a ln f wi) d (bodyA V n ln a2 l2) = runL (expF V a ln f wi) d (bodyW V n ln) := by
  unfold bodyA bodyW
  split
  · rw [runL_one, runL_one, numA_stay]
  · split
    · rw [runL_one, runL_one, numA_stay]
    · rfl
theorem own_one5 (b : Nat) (t : Tk) : ownOk 1 5 (tksC [t]) (some (b, 1, (tkC t).toArray)) := by
  refine ⟨Nat.le_refl _, by simp [maxLen], rfl, ?_, rfl⟩
  simp [tksC, tkC]
theorem dig_sl {d : Nat} (h : d < 10) : (([48, 49, 50, 51, 52, 53, 54, 55, 56, 57].take (((d : Nat) : Int) + 1).toNat).drop (((d : Nat) : Int)).toNat) = [UInt8.ofNat (48 + d)] := by
  have : d = 0 ∨ d = 1 ∨ d = 2 ∨ d = 3 ∨ d = 4 ∨ d = 5 ∨ d = 6 ∨ d = 7 ∨ d = 8 ∨ d = 9 := by omega
  rcases this with rfl | rfl | rfl | rfl | rfl | rfl | rfl | rfl | rfl | rfl <;> decide
set_option maxRecDepth 100000 in
set_option maxHeartbeats 4000000 in
theorem number11_ok {m : Int} (n : Nat) (hmn : m = n) (h1 : 1 ≤ n) (h2 : n ≤ 20000) (tt : Tk) (w : World) :
    Calls Tryd.prog 24 #[.int .i64 m, .agg (tkC tt).toArray] w (Gives (fun o : Ow => ownV 1 o) (fun o => ownOk 1 5 (tksC [numA n tt.at_ tt.ln]) o) w (fun _ => []) (owN 35)) := by
  subst hmn
  obtain ⟨tk, tx, ty, ta, tn⟩ := tt
  refine calls_of_W (vs := [.int .i64 (n : Nat), .agg (tkC ⟨tk, tx, ty, ta, tn⟩).toArray]) Tryd.func24 rfl Tryd.ntmps24 (Nat.le_of_ble_eq_true rfl) (St.nil w []) ?_
  simp only [argL, tkC]
  have hl := dd_len n
  repeat' (first | (apply gL; first | (apply Wl.ev rfl rfl; (focus (first | exact ev_move rfl | exact ev_assign rfl))) | ((show Wl _ _ _ _ _ _ _ (⟨some 3, .box _ _, _, _, _, _⟩ :: _) _ _); refine wl_box rfl rfl rfl rfl ?_; intro ab) | apply Wl.nil) | (apply gQ; first | (apply Wq.ev rfl rfl; (focus (first | exact ev_move rfl | exact ev_assign rfl)))) | ((show W _ _ _ _ _ _ _ _ _); first | apply W.seq | (refine W.loop (X := Nat × List UInt8) (fun x => [(0, .int .i64 (n : Nat)), (3, ptr ab), (5, st x.2), (6, .int .i64 (x.1 : Nat))]) (fun _ => [⟨ab, true, row (tkC ⟨tk, tx, ty, ta, tn⟩) 35⟩]) (fun x => x.1 ≤ n ∧ (0 < x.1 → Lib.decDigits n = Lib.decDigits x.1 ++ x.2) ∧ (x.1 = 0 → Lib.decDigits n = x.2)) (fun x => x.1) (n, []) ⟨Nat.le_refl _, fun _ => by simp, fun h => absurd h (by dsimp only; omega)⟩ (by repeat (first | exact SubL.nil | refine SubL.cons rfl ?_)) (List.Sublist.refl _) ?_) | apply W.region | apply W.block))
  rintro ⟨k, s⟩ ⟨hk, hp, hz⟩
  dsimp only at hk hp hz ⊢
  by_cases h0 : 0 < k
  · have hp := hp h0
    have hsl : s.length ≤ 2001 := by
      have := congrArg List.length hp
      rw [List.length_append] at this
      omega
    have hq : Value.int .i64 (IntKind.i64.wrap (((k : Nat) : Int).tdiv 10)) = .int .i64 ((k / 10 : Nat)) := by
      rw [show (((k : Nat) : Int).tdiv 10) = ((k / 10 : Nat) : Int) from (Int.ofNat_tdiv k 10).symm, wrap64_in (by omega)]
    have hr : Value.int .i64 (((k : Nat) : Int).tmod 10) = .int .i64 ((k % 10 : Nat)) := by
      rw [show (((k : Nat) : Int).tmod 10) = ((k % 10 : Nat) : Int) from (Int.ofNat_tmod k 10).symm]
    repeat' (first | (apply gL; first | (apply Wl.ev rfl rfl; (focus (first | exact ev_move rfl | exact ev_assign rfl | exact ev_pickT rfl rfl | (apply gBin; first | exact (ev_rem rfl rfl (by decide)).to hr | exact (ev_quo rfl rfl (by decide)).to hq | exact ev_gti rfl rfl | exact ev_add64 rfl rfl (by omega) | exact ev_cat rfl rfl (by (first | omega | (simp; omega)))) | (apply gSli; first | exact (ev_slice_string (strT rfl) rfl rfl rfl (by simp; omega)).to (show _ = st [UInt8.ofNat (48 + k % 10)] from by rw [dig_sl (by omega)]))))) | apply Wl.nil | (refine Wl.skip rfl rfl ?_) | ((fail_if_success (apply Wl.chk rfl)); refine Wl.split rfl rfl ?_ ?_ <;> (intro h; try (exfalso; first | contradiction | omega | exact h rfl | exact h ⟨rfl, rfl⟩ | (simp_all; done))))) | (apply gQ; first | (apply Wq.ev rfl rfl; (focus (first | exact ev_move rfl | exact ev_assign rfl | exact ev_pickT rfl rfl | (apply gBin; first | exact (ev_rem rfl rfl (by decide)).to hr | exact (ev_quo rfl rfl (by decide)).to hq | exact ev_gti rfl rfl | exact ev_add64 rfl rfl (by omega) | exact ev_cat rfl rfl (by (first | omega | (simp; omega)))) | (apply gSli; first | exact (ev_slice_string (strT rfl) rfl rfl rfl (by simp; omega)).to (show _ = st [UInt8.ofNat (48 + k % 10)] from by rw [dig_sl (by omega)])))))) | ((show W _ _ _ _ _ _ _ _ _); first | apply W.seq | apply W.region | apply W.block | apply W.blk | apply W.skip | (refine W.condT rfl ?_)))
    all_goals exact W.again (k / 10, [UInt8.ofNat (48 + k % 10)] ++ s) ⟨by omega, fun h => by
        dsimp only at h
        rw [hp, dd_rec (by omega)]
        simp, fun h => by
        dsimp only at h
        rw [hp, Lib.decDigits_one (by omega), show k % 10 = k by omega]⟩ (by dsimp only; omega) (by repeat (first | exact SubL.nil | refine SubL.cons rfl ?_)) (by repeat (first | exact SubH.nil | apply SubH.keep | apply SubH.drop | exact List.Sublist.refl _))
  · obtain rfl : k = 0 := by omega
    have hz := hz rfl
    have hsn : ¬s = [] := fun h => by
      rw [hz, h] at hl
      simp at hl
    repeat' (first | (apply gL; first | (apply Wl.ev rfl rfl; (focus (first | exact ev_move rfl | (apply gLoa; first | exact ev_load (agT rfl) rfl (by repeat (first | exact List.Mem.head _ | apply List.Mem.tail)) rfl) | (apply gFie; first | exact ev_fieldAddr0 (fldT rfl) rfl) | exact ev_assign rfl | exact ev_pickF rfl rfl | (apply gBin; first | exact ev_eqs rfl rfl | exact ev_gti rfl rfl | exact ev_mul64 rfl rfl (by omega)) | (apply gBui; first | (apply ev_build (bldT rfl) rfl; simp [fillP]; rfl)) | (apply gCon; first | exact ev_convK (dT rfl) (intT rfl) rfl (by first | exact wrap64_in (by omega) | exact IntWalk.u8_in _ (by omega) | exact IntWalk.i32_in _ (by omega)))))) | apply Wl.nil | (apply wl_buildSlice rfl rfl (slT rfl) (szT rfl) (zeroT rfl) rfl (by decide) rfl; (focus (simp [fillP, List.range_succ]; rfl)); intro b)) | (apply gQ; first | (apply Wq.ev rfl rfl; (focus (first | exact ev_move rfl | (apply gLoa; first | exact ev_load (agT rfl) rfl (by repeat (first | exact List.Mem.head _ | apply List.Mem.tail)) rfl) | (apply gFie; first | exact ev_fieldAddr0 (fldT rfl) rfl) | exact ev_assign rfl | exact ev_pickF rfl rfl | (apply gBin; first | exact ev_eqs rfl rfl | exact ev_gti rfl rfl | exact ev_mul64 rfl rfl (by omega)) | (apply gBui; first | (apply ev_build (bldT rfl) rfl; simp [fillP]; rfl)) | (apply gCon; first | exact ev_convK (dT rfl) (intT rfl) rfl (by first | exact wrap64_in (by omega) | exact IntWalk.u8_in _ (by omega) | exact IntWalk.i32_in _ (by omega))))))) | ((show W _ _ _ _ _ _ _ _ _); first | apply W.seq | apply W.region | (refine W.exit rfl ?_) | (refine W.cond rfl ?_ ?_ <;> (intro h; try (exfalso; first | contradiction | omega | exact h rfl | exact h ⟨rfl, rfl⟩ | (simp_all; done)))) | (refine W.ret1 rfl rfl ?_; intro w hs)))
    all_goals exact ret_new hs (some (b, 1, (tkC (numA n ta tn)).toArray)) (own_one5 b _) rfl (by rw [ents_owN]; unfold numA; rw [hz]; exact (by repeat (first | exact SubH.nil | apply SubH.keep | apply SubH.drop | exact List.Sublist.refl _)))
end Go.Proofs.YthhfandandfeeaaDoor
