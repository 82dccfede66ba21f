/- Walks of functions of this seat, and what they compute: lemmas for the proofs of its statements. No condition. -/
import Derived.Test.YtjeaglhjbadadaaDoorT2
import Derived.Test.YtjeaglhjbadadaaDoorRows
namespace Go.Proofs.YtjeaglhjbadadaaDoor
open Go.PB Go.RowKit
attribute [local irreducible] Go.Calls
/-- the listed table of powers of ten, in a world -/
def Pows (w : World) : Prop := Lib.TabIs Tryd.prog w ((Rows.fixTurnsRow.laid.map (·.1)).getD 2 default) .u64 Lib.pow10Tab
theorem Pows.st {w0 w : World} {H : List Ent} (hs : St [] w0 w H) (h : Pows w0) : Pows w := by
  unfold Pows Lib.TabIs World.var? at h ⊢
  obtain ⟨g, hg, hv⟩ := Option.bind_eq_some_iff.1 h
  rw [hg, Option.bind_some]
  have hlt : g < w0.heap.size := by
    refine Nat.lt_of_not_le fun hle => ?_
    rw [Array.getElem?_eq_none hle] at hv
    cases hv
  rw [hs.frame g hlt (by simp)]
  exact hv
theorem fmt_ok (m : Int) (k : Nat) (hm : m = k) (hk : k < 9223372036854775808) (w : World) (h : Pows w) : Calls Tryd.prog 52 #[.int .i64 m, .int .i64 10] w (Give (st (Lib.decDigits k)) w) := by
  subst hm
  refine (Tryd.strconv_FormatInt_10 (k : Int) (by omega) (by omega) w h).mono ?_
  rintro e w' ⟨rfl, n, os, rfl⟩
  refine ⟨?_, ?_⟩
  · unfold Lib.itoa
    rw [if_neg (by omega)]
    rfl
  · refine ⟨rfl, rfl, rfl, by simp [Sort.grow], fun k hk _ => ?_, by simp, by simp, .nil⟩
    have : k < (w.drewN n).heap.size := hk
    simp [Sort.grow, Array.getElem?_append]
    intro hle; omega
theorem trim_ok (l : List UInt8) (hl : l.length < 9223372036854775808) (w : World) : Calls Tryd.prog 53 #[st l, st [48]] w (Give (st (Lib.trimRightB l 48)) w) := by
  refine (Tryd.strings_TrimRight_one ⟨l.toArray⟩ 48 (by decide) w (by simp only [ByteArray.size]; simp; omega)).mono ?_
  rintro e w' ⟨rfl, rfl⟩
  exact ⟨rfl, Turn.refl _⟩
theorem frac_ok (k : Nat) (_ : k ≤ 2147483648) : Value.int .i64 (((k : Int) % 65536 * 100000 + 32768) / 65536) = .int .i64 (fracS k : Nat) := by
  unfold fracS; congr 1
theorem text_ok (a : Int) (ha : -2147483648 ≤ a ∧ a ≤ 2147483647) (w : World) (hp : Pows w) : Calls Tryd.prog 14 #[.int .i32 a] w (Give (st (textS a)) w) := by
  refine give_of_W (vs := [.int .i32 a]) Tryd.func14 rfl Tryd.ntmps14 (Nat.le_of_ble_eq_true rfl) (St.nil w _) ?_
  simp only [argL]
  obtain ⟨M, hM⟩ : ∃ M, a.natAbs = M := ⟨_, rfl⟩
  have hMr : M ≤ 2147483648 := by omega
  have hF := fracS_lt M
  have hfr := frac_ok M hMr
  have hd5 := dd5 (M / 65536) (by omega)
  have hd6 := dd6 (fracS M) hF
  have hpl : (pad5 (fracS M)).length = 5 := by unfold pad5; rfl
  have htr := trim_len (pad5 (fracS M)) 48
  have hres : textS a = (if a < 0 then [45] else []) ++ Lib.decDigits (M / 65536) ++ tailS M := by unfold textS; rw [hM]
  have htl : tailS M = if fracS M = 0 then [] else 46 :: Lib.trimRightB (pad5 (fracS M)) 48 := rfl
  obtain ⟨F, hFe⟩ : ∃ F, fracS M = F := ⟨_, rfl⟩
  obtain ⟨Dg, hDg⟩ : ∃ Dg, Lib.decDigits (M / 65536) = Dg := ⟨_, rfl⟩
  obtain ⟨Pd, hPd⟩ : ∃ Pd, pad5 F = Pd := ⟨_, rfl⟩
  obtain ⟨T, hT⟩ : ∃ T, Lib.trimRightB Pd 48 = T := ⟨_, rfl⟩
  rw [hFe] at hF hfr hd6 hpl htr htl
  rw [hDg] at hd5 hres
  rw [hPd] at hd6 hpl htr htl
  rw [hT] at htr htl
  by_cases ha0 : a < 0
  · repeat' (first | ((show Wl _ _ _ _ _ _ _ _ _ _); first | (apply Wl.ev rfl rfl; (focus (first | ((show Ev _ _ _ _ _ _ _ (.move _) _ _); first | exact ev_move rfl) | ((show Ev _ _ _ _ _ _ _ (.assign _) _ _); first | exact ev_assign rfl) | ((show Ev _ _ _ _ _ _ _ (.binOp _ _ _ _ _) _ _); first | exact (ev_shr rfl rfl (by decide)).to (show _ = Value.int .i64 (F : Int) from by rw [shr16_64]; exact hfr) | exact (ev_shr rfl rfl (by decide)).to (show _ = Value.int .i64 ((M / 65536 : Nat) : Int) from by rw [shr16_64]; congr 1; omega) | exact (ev_and rfl rfl).to (show _ = Value.int .i64 ((M : Int) % 65536) from by rw [and16_64]; congr 1; omega) | exact ev_eqi rfl rfl | exact ev_eqsT rfl rfl (by decide) | exact ev_eqsF rfl rfl (by decide) | exact ev_eqs rfl rfl | exact ev_lti rfl rfl | exact ev_add64 rfl rfl (by omega) | exact ev_mul64 rfl rfl (by omega) | exact ev_addK rfl rfl (by first | exact wrap64_in (by omega) | exact IntWalk.u8_in _ (by omega) | exact IntWalk.i32_in _ (by omega)) | exact ev_mulK rfl rfl (by first | exact wrap64_in (by omega) | exact IntWalk.u8_in _ (by omega) | exact IntWalk.i32_in _ (by omega)) | exact ev_cat rfl rfl (by (first | omega | (simp; omega))) | exact ev_eqFlatD (flatT rfl) rfl rfl rfl eqL_ii | exact ev_eqb_self (boolT rfl) rfl rfl | exact ev_eqb (boolT rfl) rfl rfl | exact ev_shr rfl rfl (by decide) | exact ev_and rfl rfl | exact ev_add rfl rfl | exact ev_mul rfl rfl) | ((show Ev _ _ _ _ _ _ _ (.unOp _ _ _) _ _); first | exact ev_notT rfl | exact ev_notF rfl | exact ev_notD rfl | exact ev_notB rfl | exact ev_neg64 rfl (by omega) | exact ev_neg rfl) | ((show Ev _ _ _ _ _ _ _ (.slice _ _ _ _ _) _ _); first | exact ev_slice_string (strT rfl) rfl rfl rfl (by first | omega | (simp; done) | (simp; omega) | (simp [*]; done) | (simp [*]; omega) | (simp_all; done) | (simp_all; omega)) | exact ev_slice_string_lo (strT rfl) rfl rfl (by first | omega | (simp; done) | (simp; omega) | (simp [*]; done) | (simp [*]; omega) | (simp_all; done) | (simp_all; omega)) | exact ev_slice_string_hi (strT rfl) rfl rfl (by first | omega | (simp; done) | (simp; omega) | (simp [*]; done) | (simp [*]; omega) | (simp_all; done) | (simp_all; omega))) | ((show Ev _ _ _ _ _ _ _ (.convert _ _ _) _ _); first | exact ev_convK (dT rfl) (intT rfl) rfl (by first | exact wrap64_in (by omega) | exact IntWalk.u8_in _ (by omega) | exact IntWalk.i32_in _ (by omega)) | exact ev_conv (dT rfl) (intT rfl) rfl)))) | ((show Wl _ _ _ _ _ _ _ (⟨_, .call ⟨.value (.func 52), _, _⟩, _, _, _, _⟩ :: _) _ _); refine wl_call0 rfl rfl has52 rfl (fun w hs => (show Calls _ _ _ _ (Give (st Dg) w) from by rw [← hDg]; exact fmt_ok _ (M / 65536) (by omega) (by omega) w (hp.st hs))) ?_) | ((show Wl _ _ _ _ _ _ _ (⟨_, .call ⟨.value (.func 52), _, _⟩, _, _, _, _⟩ :: _) _ _); refine wl_call0 rfl rfl has52 rfl (fun w hs => (show Calls _ _ _ _ (Give (st (49 :: Pd)) w) from by rw [← hd6]; exact fmt_ok _ (100000 + F) (by omega) (by omega) w (hp.st hs))) ?_) | ((show Wl _ _ _ _ _ _ _ (⟨_, .call ⟨.value (.func 53), _, _⟩, _, _, _, _⟩ :: _) _ _); refine wl_call0 rfl rfl has53 rfl (fun w _ => (show Calls _ _ _ _ (Give (st T) w) from by rw [← hT]; exact trim_ok Pd (by omega) w)) ?_) | apply Wl.nil | (refine Wl.skip0 rfl ?_) | (refine wl_strBytes rfl rfl (strT rfl) (slT rfl) (intT rfl) rfl ?_; intro b cap hcap)) | ((show W _ _ _ _ _ _ _ _ _); first | apply W.seq | apply W.region | apply W.block | apply W.blk | apply W.skip | apply W.scp | apply W.label | apply W.scope0 | (refine W.exit rfl ?_) | (refine W.condT rfl ?_) | (refine W.condF rfl ?_) | (refine W.cond rfl ?_ ?_ <;> (intro h; try (exfalso; first | contradiction | omega | exact h rfl | exact h ⟨rfl, rfl⟩ | (simp_all; done)))) | (refine W.condB rfl ?_ ?_ <;> (intro h; try (exfalso; first | contradiction | (simp_all; done)))) | (refine W.ret1 rfl rfl ?_; intro w hs)))
    · exact ret_eq hs (by rw [hres, htl, if_pos ha0, if_pos (by omega)]; simp)
    · exact ret_eq hs (by rw [hres, htl, if_pos ha0, if_neg (by omega)]; simp)
  · repeat' (first | ((show Wl _ _ _ _ _ _ _ _ _ _); first | (apply Wl.ev rfl rfl; (focus (first | ((show Ev _ _ _ _ _ _ _ (.move _) _ _); first | exact ev_move rfl) | ((show Ev _ _ _ _ _ _ _ (.assign _) _ _); first | exact ev_assign rfl) | ((show Ev _ _ _ _ _ _ _ (.binOp _ _ _ _ _) _ _); first | exact (ev_shr rfl rfl (by decide)).to (show _ = Value.int .i64 (F : Int) from by rw [shr16_64]; exact hfr) | exact (ev_shr rfl rfl (by decide)).to (show _ = Value.int .i64 ((M / 65536 : Nat) : Int) from by rw [shr16_64]; congr 1; omega) | exact (ev_and rfl rfl).to (show _ = Value.int .i64 ((M : Int) % 65536) from by rw [and16_64]; congr 1; omega) | exact ev_eqi rfl rfl | exact ev_eqsT rfl rfl (by decide) | exact ev_eqsF rfl rfl (by decide) | exact ev_eqs rfl rfl | exact ev_lti rfl rfl | exact ev_add64 rfl rfl (by omega) | exact ev_mul64 rfl rfl (by omega) | exact ev_addK rfl rfl (by first | exact wrap64_in (by omega) | exact IntWalk.u8_in _ (by omega) | exact IntWalk.i32_in _ (by omega)) | exact ev_mulK rfl rfl (by first | exact wrap64_in (by omega) | exact IntWalk.u8_in _ (by omega) | exact IntWalk.i32_in _ (by omega)) | exact ev_cat rfl rfl (by (first | omega | (simp; omega))) | exact ev_eqFlatD (flatT rfl) rfl rfl rfl eqL_ii | exact ev_eqb_self (boolT rfl) rfl rfl | exact ev_eqb (boolT rfl) rfl rfl | exact ev_shr rfl rfl (by decide) | exact ev_and rfl rfl | exact ev_add rfl rfl | exact ev_mul rfl rfl) | ((show Ev _ _ _ _ _ _ _ (.unOp _ _ _) _ _); first | exact ev_notT rfl | exact ev_notF rfl | exact ev_notD rfl | exact ev_notB rfl | exact ev_neg64 rfl (by omega) | exact ev_neg rfl) | ((show Ev _ _ _ _ _ _ _ (.slice _ _ _ _ _) _ _); first | exact ev_slice_string (strT rfl) rfl rfl rfl (by first | omega | (simp; done) | (simp; omega) | (simp [*]; done) | (simp [*]; omega) | (simp_all; done) | (simp_all; omega)) | exact ev_slice_string_lo (strT rfl) rfl rfl (by first | omega | (simp; done) | (simp; omega) | (simp [*]; done) | (simp [*]; omega) | (simp_all; done) | (simp_all; omega)) | exact ev_slice_string_hi (strT rfl) rfl rfl (by first | omega | (simp; done) | (simp; omega) | (simp [*]; done) | (simp [*]; omega) | (simp_all; done) | (simp_all; omega))) | ((show Ev _ _ _ _ _ _ _ (.convert _ _ _) _ _); first | exact ev_convK (dT rfl) (intT rfl) rfl (by first | exact wrap64_in (by omega) | exact IntWalk.u8_in _ (by omega) | exact IntWalk.i32_in _ (by omega)) | exact ev_conv (dT rfl) (intT rfl) rfl)))) | ((show Wl _ _ _ _ _ _ _ (⟨_, .call ⟨.value (.func 52), _, _⟩, _, _, _, _⟩ :: _) _ _); refine wl_call0 rfl rfl has52 rfl (fun w hs => (show Calls _ _ _ _ (Give (st Dg) w) from by rw [← hDg]; exact fmt_ok _ (M / 65536) (by omega) (by omega) w (hp.st hs))) ?_) | ((show Wl _ _ _ _ _ _ _ (⟨_, .call ⟨.value (.func 52), _, _⟩, _, _, _, _⟩ :: _) _ _); refine wl_call0 rfl rfl has52 rfl (fun w hs => (show Calls _ _ _ _ (Give (st (49 :: Pd)) w) from by rw [← hd6]; exact fmt_ok _ (100000 + F) (by omega) (by omega) w (hp.st hs))) ?_) | ((show Wl _ _ _ _ _ _ _ (⟨_, .call ⟨.value (.func 53), _, _⟩, _, _, _, _⟩ :: _) _ _); refine wl_call0 rfl rfl has53 rfl (fun w _ => (show Calls _ _ _ _ (Give (st T) w) from by rw [← hT]; exact trim_ok Pd (by omega) w)) ?_) | apply Wl.nil | (refine Wl.skip0 rfl ?_) | (refine wl_strBytes rfl rfl (strT rfl) (slT rfl) (intT rfl) rfl ?_; intro b cap hcap)) | ((show W _ _ _ _ _ _ _ _ _); first | apply W.seq | apply W.region | apply W.block | apply W.blk | apply W.skip | apply W.scp | apply W.label | apply W.scope0 | (refine W.exit rfl ?_) | (refine W.condT rfl ?_) | (refine W.condF rfl ?_) | (refine W.cond rfl ?_ ?_ <;> (intro h; try (exfalso; first | contradiction | omega | exact h rfl | exact h ⟨rfl, rfl⟩ | (simp_all; done)))) | (refine W.condB rfl ?_ ?_ <;> (intro h; try (exfalso; first | contradiction | (simp_all; done)))) | (refine W.ret1 rfl rfl ?_; intro w hs)))
    · exact ret_eq hs (by rw [hres, htl, if_neg ha0, if_pos (by omega)]; simp)
    · exact ret_eq hs (by rw [hres, htl, if_neg ha0, if_neg (by omega)]; simp)
end Go.Proofs.YtjeaglhjbadadaaDoor
