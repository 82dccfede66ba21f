/- Walks of functions of this seat, and what they compute: lemmas for the proofs of its statements. No condition. -/
import Derived.Test.YtjeaglhjbadadaaDoorA3
import Derived.Test.YtjeaglhjbadadaaDoorR2
import Derived.Test.YtjeaglhjbadadaaDoorShelf
namespace Go.PB
open Go.RowKit
section
variable {P : Program} {M : List Nat} {w0 : World} {n : Nat} {D : List Deferred} {L : List (Nat × Value)} {H : List Ent} {t t' oty : TypeId} {x : Operand}
theorem ev_strInt {k : IntKind} {m : Int} (hs : ∃ d, P.underlying t = some d) (ht : P.underlying t' = some .string) (hx : evo L x = some (.int k m)) (hm : 0 ≤ m ∧ m < 128) : Ev P M w0 n D L H (.convert t t' x) oty (.string ⟨[m.toNat.toUInt8].toArray⟩) :=
  by
    unfold Ev
    intro a w hf _ _ _ _ _
    obtain ⟨d, hd⟩ := hs
    have he : Utf8.encode m = ⟨[m.toNat.toUInt8].toArray⟩ := by
      unfold Utf8.encode
      have hv : Utf8.valid m = true := by unfold Utf8.valid; simp; omega
      simp only [hv, if_true]
      rw [if_pos (by omega)]
    simp only [execOp, hf.eval hx, convert, Sem.run_bind, run_underlying hd, run_underlying ht, Result.andThen_ok]
    cases d <;> simp [Conv.intToString, he]
end
end Go.PB
namespace Go.Proofs.YtjeaglhjbadadaaDoor
open Go.PB Go.RowKit
attribute [local irreducible] Go.Calls
theorem digits_ok (k : Nat) (hk : k < 4611686018427387904) (w : World) : Calls Tryd.prog 54 #[.int .i64 k] w (Give (st (Lib.decDigits k)) w) := by
  refine give_of_W (vs := [.int .i64 k]) Tryd.func54 rfl Tryd.ntmps54 (Nat.le_of_ble_eq_true rfl) (St.nil w _) ?_
  simp only [argL]
  repeat' (first | ((show Wl _ _ _ _ _ _ _ _ _ _); first | (apply Wl.ev rfl rfl; (focus (first | ((show Ev _ _ _ _ _ _ _ (.move _) _ _); first | exact ev_move rfl) | ((show Ev _ _ _ _ _ _ _ (.assign _) _ _); first | exact ev_assign rfl) | ((show Ev _ _ _ _ _ _ _ (.binOp _ _ _ _ _) _ _); first | exact ev_gti rfl rfl | exact ev_add64 rfl rfl (by omega) | exact ev_addK rfl rfl (by first | exact wrap64_in (by omega) | exact IntWalk.u8_in _ (by omega) | exact IntWalk.i32_in _ (by omega)) | exact ev_cat rfl rfl (by (first | omega | (simp; omega))) | exact ev_quo rfl rfl (by decide) | exact ev_rem rfl rfl (by decide) | exact ev_add rfl rfl) | ((show Ev _ _ _ _ _ _ _ (.convert _ _ _) _ _); first | exact ev_convK (dT rfl) (intT rfl) rfl (by first | exact wrap64_in (by omega) | exact IntWalk.u8_in _ (by omega) | exact IntWalk.i32_in _ (by omega)) | exact ev_conv (dT rfl) (intT rfl) rfl)))) | apply Wl.nil | (refine Wl.skip0 rfl ?_) | (refine wl_strBytes rfl rfl (strT rfl) (slT rfl) (intT rfl) rfl ?_; intro b cap hcap)) | ((show W _ _ _ _ _ _ _ _ _); first | apply W.seq | apply W.region | apply W.block | apply W.blk | apply W.skip | apply W.scp | apply W.label | apply W.scope0 | (refine W.exit rfl ?_) | (refine W.condT rfl ?_) | (refine W.condF rfl ?_) | (refine W.cond rfl ?_ ?_ <;> (intro h; try (exfalso; first | contradiction | omega | exact h rfl | exact h ⟨rfl, rfl⟩ | (simp_all; done)))) | (refine W.condB rfl ?_ ?_ <;> (intro h; try (exfalso; first | contradiction | (simp_all; done)))) | (refine W.ret1 rfl rfl ?_; intro w hs)))
  refine W.loop (X := Nat × List UInt8) (fun x => [(0, .int .i64 (x.1 : Nat)), (3, st x.2)]) (fun _ => []) (fun x => Lib.decDigits k = Lib.decDigits x.1 ++ x.2 ∧ x.2.length + x.1 ≤ k) (fun x => x.1) (k, []) ⟨by simp, by simp⟩ (by repeat (first | exact SubL.nil | refine SubL.cons rfl ?_)) (by repeat (first | exact SubH.nil | apply SubH.keep | apply SubH.drop | exact List.Sublist.refl _)) ?_
  rintro ⟨m, s⟩ ⟨h1, h2⟩
  dsimp only at h1 h2 ⊢
  by_cases hm : m < 10
  · repeat' (first | ((show Wl _ _ _ _ _ _ _ _ _ _); first | (apply Wl.ev rfl rfl; (focus (first | ((show Ev _ _ _ _ _ _ _ (.move _) _ _); first | exact ev_move rfl) | ((show Ev _ _ _ _ _ _ _ (.assign _) _ _); first | exact ev_assign rfl) | ((show Ev _ _ _ _ _ _ _ (.binOp _ _ _ _ _) _ _); first | exact ev_gti rfl rfl | exact ev_add64 rfl rfl (by omega) | exact ev_addK rfl rfl (by first | exact wrap64_in (by omega) | exact IntWalk.u8_in _ (by omega) | exact IntWalk.i32_in _ (by omega)) | exact ev_cat rfl rfl (by (first | omega | (simp; omega))) | exact ev_quo rfl rfl (by decide) | exact ev_rem rfl rfl (by decide) | exact ev_add rfl rfl) | ((show Ev _ _ _ _ _ _ _ (.convert _ _ _) _ _); first | exact ev_convK (dT rfl) (intT rfl) rfl (by first | exact wrap64_in (by omega) | exact IntWalk.u8_in _ (by omega) | exact IntWalk.i32_in _ (by omega)) | exact ev_conv (dT rfl) (intT rfl) rfl) | exact (ev_strInt (dT rfl) (strT rfl) rfl (by omega))))) | apply Wl.nil | (refine Wl.skip0 rfl ?_) | (refine wl_strBytes rfl rfl (strT rfl) (slT rfl) (intT rfl) rfl ?_; intro b cap hcap)) | ((show W _ _ _ _ _ _ _ _ _); first | apply W.seq | apply W.region | apply W.block | apply W.blk | apply W.skip | apply W.scp | apply W.label | apply W.scope0 | (refine W.exit rfl ?_) | (refine W.condT rfl ?_) | (refine W.condF rfl ?_) | (refine W.cond rfl ?_ ?_ <;> (intro h; try (exfalso; first | contradiction | omega | exact h rfl | exact h ⟨rfl, rfl⟩ | (simp_all; done)))) | (refine W.condB rfl ?_ ?_ <;> (intro h; try (exfalso; first | contradiction | (simp_all; done)))) | (refine W.ret1 rfl rfl ?_; intro w hs)))
    exact ret_eq hs (by rw [h1, Lib.decDigits_one hm]; simp [show ((48 : Int) + m).toNat = 48 + m by omega])
  · have hd : Lib.decDigits m = Lib.decDigits (m / 10) ++ [UInt8.ofNat (48 + m % 10)] := by rw [Lib.decDigits, dif_neg hm]
    repeat' (first | ((show Wl _ _ _ _ _ _ _ _ _ _); first | (apply Wl.ev rfl rfl; (focus (first | ((show Ev _ _ _ _ _ _ _ (.move _) _ _); first | exact ev_move rfl) | ((show Ev _ _ _ _ _ _ _ (.assign _) _ _); first | exact ev_assign rfl) | ((show Ev _ _ _ _ _ _ _ (.binOp _ _ _ _ _) _ _); first | exact (ev_rem rfl rfl (by decide)).to (rem_nn _ _ (by omega)) | exact (ev_quo rfl rfl (by decide)).to (quo_nn _ _ (by omega) (by omega) (by omega)) | exact ev_gti rfl rfl | exact ev_add64 rfl rfl (by omega) | exact ev_addK rfl rfl (by first | exact wrap64_in (by omega) | exact IntWalk.u8_in _ (by omega) | exact IntWalk.i32_in _ (by omega)) | exact ev_cat rfl rfl (by (first | omega | (simp; omega))) | exact ev_quo rfl rfl (by decide) | exact ev_rem rfl rfl (by decide) | exact ev_add rfl rfl) | ((show Ev _ _ _ _ _ _ _ (.convert _ _ _) _ _); first | exact ev_convK (dT rfl) (intT rfl) rfl (by first | exact wrap64_in (by omega) | exact IntWalk.u8_in _ (by omega) | exact IntWalk.i32_in _ (by omega)) | exact ev_conv (dT rfl) (intT rfl) rfl) | exact (ev_strInt (dT rfl) (strT rfl) rfl (by omega))))) | apply Wl.nil | (refine Wl.skip0 rfl ?_) | (refine wl_strBytes rfl rfl (strT rfl) (slT rfl) (intT rfl) rfl ?_; intro b cap hcap)) | ((show W _ _ _ _ _ _ _ _ _); first | apply W.seq | (refine W.again (m / 10, UInt8.ofNat (48 + m % 10) :: s) ?_ ?_ (by repeat (first | exact SubL.nil | refine SubL.cons rfl ?_)) (by repeat (first | exact SubH.nil | apply SubH.keep | apply SubH.drop | exact List.Sublist.refl _))) | apply W.region | apply W.block | apply W.blk | apply W.skip | apply W.scp | apply W.label | apply W.scope0 | (refine W.exit rfl ?_) | (refine W.condT rfl ?_) | (refine W.condF rfl ?_) | (refine W.cond rfl ?_ ?_ <;> (intro h; try (exfalso; first | contradiction | omega | exact h rfl | exact h ⟨rfl, rfl⟩ | (simp_all; done)))) | (refine W.condB rfl ?_ ?_ <;> (intro h; try (exfalso; first | contradiction | (simp_all; done)))) | (refine W.ret1 rfl rfl ?_; intro w hs)))
    · exact ⟨by rw [h1, hd, List.append_assoc]; rfl, by simp; omega⟩
    · simp; omega
end Go.Proofs.YtjeaglhjbadadaaDoor
