/- Walks of functions of this seat, and what they compute: lemmas for the proofs of its statements. No condition. -/
import Derived.Test.YthhfandandfeeaaDoorR2
import Derived.Test.YthhfandandfeeaaDoorR3
namespace Go.Proofs.YthhfandandfeeaaDoor
open Go.PB Go.RowKit
attribute [local irreducible] Go.Calls
/-- is it a digit? -/
def isD (b : UInt8) : Prop := 48 ≤ b.toNat ∧ b.toNat ≤ 57
instance isDD (b : UInt8) : Decidable (isD b) := by unfold isD; infer_instance
def digs (l : List UInt8) : List Nat := l.map fun b => b.toNat - 48
theorem digs_back {l : List UInt8} (h : ∀ b ∈ l, isD b) : digB (digs l) = l := by
  unfold digB digs
  rw [List.map_map]
  conv => rhs; rw [← List.map_id l]
  refine List.map_congr_left fun b hb => ?_
  have := h b hb
  unfold isD at this
  simp only [Function.comp, id]
  apply UInt8.toNat_inj.1
  simp [Nat.toUInt8, UInt8.toNat_ofNat']
  omega
theorem digs_lt {l : List UInt8} (h : ∀ b ∈ l, isD b) : ∀ d ∈ digs l, d < 10 := fun d hd => by
  obtain ⟨b, hb, rfl⟩ := List.mem_map.1 hd
  have := h b hb
  unfold isD at this
  omega
theorem digs_len (l : List UInt8) : (digs l).length = l.length := by simp [digs]
/-- a whole part, up to a bound -/
def wholeS (top : Nat) (l : List UInt8) : Nat := l.foldl (fun n b => min (n * 10 + (b.toNat - 48)) top) 0
theorem wholeS_le (top : Nat) (l : List UInt8) : wholeS top l ≤ top := by
  have : ∀ (l : List UInt8) (n : Nat), n ≤ top → l.foldl (fun n b => min (n * 10 + (b.toNat - 48)) top) n ≤ top := by
    intro l
    induction l with
    | nil => intro n h; exact h
    | cons b l ih => intro n h; exact ih _ (Nat.min_le_right _ _)
  exact this l 0 (Nat.zero_le _)
theorem wholeS_snoc (top : Nat) (l : List UInt8) (b : UInt8) : wholeS top (l ++ [b]) = min (wholeS top l * 10 + (b.toNat - 48)) top := by simp [wholeS]
/-- the number of a text; what is wrong with it -/
def parseS (l : List UInt8) : Int × Int :=
  if 40 < l.length then (0, 3)
  else
    let t := if l.head? = some 45 then l.tail else l
    let c := cutS t 46
    if c.1 ++ c.2.1 = [] then (0, 120)
    else if ¬∀ b ∈ c.1 ++ c.2.1, isD b then (0, 120)
    else
      let m : Nat := (wholeS 65536 c.1 * 131072 + binS 17 0 (digs c.2.1) + 1) / 2
      (rawS (if l.head? = some 45 then -(m : Int) else m), 0)
theorem shl17_ok (n : Nat) (h : n ≤ 65536) : Value.int .i64 (IntKind.i64.wrap ((n : Int) * 2 ^ (min (Int.toNat 17) IntKind.i64.bits))) = .int .i64 ((n * 131072 : Nat) : Int) := by
  have e1 : (2 : Int) ^ (min (Int.toNat 17) IntKind.i64.bits) = 131072 := by decide
  rw [e1, wrap64_in (by omega)]
  congr 1
theorem shr1_ok (m k : Nat) : Value.int .i64 (((m : Int) + (k : Int) + 1).fdiv (2 ^ (min (Int.toNat 1) IntKind.i64.bits))) = .int .i64 (((m + k + 1) / 2 : Nat) : Int) := by
  have e1 : (2 : Int) ^ (min (Int.toNat 1) IntKind.i64.bits) = 2 := by decide
  rw [e1, Int.fdiv_eq_ediv_of_nonneg _ (by omega)]
  congr 1
abbrev res2i (r : Int × Int) : Value := .tuple #[.int .i32 r.1, .int .i64 r.2]
set_option maxRecDepth 100000 in
set_option maxHeartbeats 4000000 in
theorem parse_ok (l : List UInt8) (hlen : l.length < 4611686018427387904) (w : World) : Calls Tryd.prog 65 #[st l] w (Give (res2i (parseS l)) w) := by
  refine give_of_W (vs := [st l]) Tryd.func65 rfl Tryd.ntmps65 (Nat.le_of_ble_eq_true rfl) (St.nil w _) ?_
  simp only [argL]
  by_cases hl : l.length ≤ 40
  · obtain ⟨t, ht⟩ : ∃ t, (if l.head? = some 45 then l.tail else l) = t := ⟨_, rfl⟩
    have htl : t.length ≤ 40 := by
      rw [← ht]
      split
      · simp; omega
      · omega
    obtain ⟨wh, pa, fo, hc⟩ : ∃ wh pa fo, cutS t 46 = (wh, pa, fo) := ⟨_, _, _, rfl⟩
    have hwp : wh.length ≤ 40 ∧ pa.length ≤ 40 := by
      unfold cutS at hc
      split at hc
      · cases hc
        simp
        omega
      · cases hc
        exact ⟨htl, by simp⟩
    have hres : parseS l = if wh ++ pa = [] then (0, 120) else if ¬∀ b ∈ wh ++ pa, isD b then (0, 120) else (rawS (if l.head? = some 45 then -(((wholeS 65536 wh * 131072 + binS 17 0 (digs pa) + 1) / 2 : Nat) : Int) else ((wholeS 65536 wh * 131072 + binS 17 0 (digs pa) + 1) / 2 : Nat)), 0) := by
      unfold parseS
      rw [if_neg (by omega)]
      simp only [ht, hc]
    obtain ⟨mi, hmi⟩ : ∃ mi : Bool, decide (l.head? = some 45) = mi := ⟨_, rfl⟩
    repeat' (first | ((show Wl _ _ _ _ _ _ _ _ _ _); first | (apply Wl.ev rfl rfl; (focus (first | ((show Ev _ _ _ _ _ _ _ (.move _) _ _); first | exact ev_move rfl) | ((show Ev _ _ _ _ _ _ _ (.assign _) _ _); first | exact ev_assign rfl) | ((show Ev _ _ _ _ _ _ _ (.binOp _ _ _ _ _) _ _); first | exact ev_eqs rfl rfl | exact ev_gti rfl rfl | exact ev_cat rfl rfl (by (first | omega | (simp; omega)))) | ((show Ev _ _ _ _ _ _ _ (.extract _ _) _ _); first | exact ev_extract rfl rfl) | ((show Ev _ _ _ _ _ _ _ (.call _) _ _); first | exact ev_len_string (strT rfl) rfl)))) | ((show Wl _ _ _ _ _ _ _ (⟨_, .call ⟨.value (.func 76), _, _⟩, _, _, _, _⟩ :: _) _ _); refine wl_call0 rfl rfl has76 rfl (fun w _ => (show Calls _ _ _ _ (Give (.tuple #[st t, .bool mi]) w) from Give.to (cutPrefix1_ok l 45 w) (by rw [ht, hmi]))) ?_) | ((show Wl _ _ _ _ _ _ _ (⟨_, .call ⟨.value (.func 77), _, _⟩, _, _, _, _⟩ :: _) _ _); refine wl_call0 rfl rfl has77 rfl (fun w _ => (show Calls _ _ _ _ (Give (.tuple #[st wh, st pa, .bool fo]) w) from Give.to (cut_ok t 46 (by omega) w) (by rw [hc]))) ?_) | apply Wl.nil | (refine wl_rangeStr rfl rfl (strT rfl) rfl ?_; intro b)) | ((show W _ _ _ _ _ _ _ _ _); first | apply W.seq | apply W.region | apply W.block | apply W.skip | apply W.label | apply W.scope0 | (refine W.cond rfl ?_ ?_ <;> (intro h; try (exfalso; first | contradiction | omega | exact h rfl | exact h ⟨rfl, rfl⟩ | (simp_all; done)))) | (refine W.ret2 rfl rfl rfl ?_; intro w hs)))
    · exact ret_eq hs (by rw [hres, if_pos h])
    · have hne := h
      obtain ⟨s, hsd⟩ : ∃ s, wh ++ pa = s := ⟨_, rfl⟩
      rw [hsd] at hres hne ⊢
      have hstep : ∀ pos, pos < s.length → isD (s.getD pos 0) → (∀ x ∈ s.take pos, isD x) → ∀ x ∈ s.take (pos + 1), isD x := fun pos hlt hb hpre => take_succ_all hlt hpre (by simpa [List.getD, hlt] using hb)
      by_cases hall : ∀ x ∈ s, isD x
      · refine W.loop (X := Nat) (fun _ => [(5, .bool mi), (6, st wh), (7, st pa), (9, .bool false), (36, .pointer (some ⟨b, 0, none⟩))]) (fun pos => [⟨b, true, sobj s pos⟩]) (fun pos => pos ≤ s.length) (fun pos => s.length - pos) 0 (Nat.zero_le _) (by repeat (first | exact SubL.nil | refine SubL.cons rfl ?_)) (by repeat (first | exact SubH.nil | apply SubH.keep | apply SubH.drop | exact List.Sublist.refl _)) ?_
        intro pos hpos
        by_cases hlt : pos < s.length
        · have hb : isD (s.getD pos 0) := hall _ (by simp [List.getD, hlt])
          unfold isD at hb
          have hdec := decode_low hlt (by omega)
          repeat' (first | ((show Wl _ _ _ _ _ _ _ _ _ _); first | (apply Wl.ev rfl rfl; (focus (first | ((show Ev _ _ _ _ _ _ _ (.move _) _ _); first | exact ev_move rfl) | ((show Ev _ _ _ _ _ _ _ (.assign _) _ _); first | exact ev_assign rfl) | ((show Ev _ _ _ _ _ _ _ (.pick _ _ _) _ _); first | exact ev_pickF rfl rfl) | ((show Ev _ _ _ _ _ _ _ (.binOp _ _ _ _ _) _ _); first | exact ev_lti rfl rfl | exact ev_gti rfl rfl) | ((show Ev _ _ _ _ _ _ _ (.extract _ _) _ _); first | exact ev_extract rfl rfl)))) | (refine wl_nextStr' (wd := 1) rfl rfl rfl hlt hdec (by repeat (first | exact Upd.here | apply Upd.there)) ?_) | apply Wl.nil | ((fail_if_success (apply Wl.chk rfl)); refine Wl.split rfl rfl ?_ ?_ <;> (intro h; try (exfalso; first | contradiction | omega | exact h rfl | exact h ⟨rfl, rfl⟩ | (simp_all; done))))) | ((show W _ _ _ _ _ _ _ _ _); first | apply W.seq | (refine W.again (pos + 1) ?_ ?_ (by repeat (first | exact SubL.nil | refine SubL.cons rfl ?_)) (by repeat (first | exact SubH.nil | apply SubH.keep | apply SubH.drop | exact List.Sublist.refl _))) | apply W.region | apply W.block | apply W.blk | apply W.skip | (refine W.condT rfl ?_) | (refine W.cond rfl ?_ ?_ <;> (intro h; try (exfalso; first | contradiction | omega | exact h rfl | exact h ⟨rfl, rfl⟩ | (simp_all; done))))))
          · omega
          · omega
        · repeat' (first | ((show Wl _ _ _ _ _ _ _ _ _ _); first | (apply Wl.ev rfl rfl; (focus (first | ((show Ev _ _ _ _ _ _ _ (.move _) _ _); first | exact ev_move rfl) | ((show Ev _ _ _ _ _ _ _ (.assign _) _ _); first | exact ev_assign rfl) | ((show Ev _ _ _ _ _ _ _ (.extract _ _) _ _); first | exact ev_extract rfl rfl) | ((show Ev _ _ _ _ _ _ _ (.next _ _) _ _); first | exact ev_nextStr_end rfl (by repeat (first | exact List.Mem.head _ | apply List.Mem.tail)) (by omega))))) | apply Wl.nil | (refine wl_rangeStr rfl rfl (strT rfl) rfl ?_; intro b)) | ((show W _ _ _ _ _ _ _ _ _); first | apply W.seq | apply W.region | apply W.block | apply W.skip | (refine W.exit rfl ?_) | (refine W.condF rfl ?_)))
          have hwd : ∀ x ∈ wh, isD x := fun x hx => hall x (by rw [← hsd]; simp [hx])
          have hpd : ∀ x ∈ pa, isD x := fun x hx => hall x (by rw [← hsd]; simp [hx])
          refine W.loop (X := Nat) (fun pos => [(5, .bool mi), (7, st pa), (12, .int .i64 ((wholeS 65536 (wh.take pos) : Nat) : Int)), (48, .pointer (some ⟨b, 0, none⟩))]) (fun pos => [⟨b, true, sobj wh pos⟩]) (fun pos => pos ≤ wh.length) (fun pos => wh.length - pos) 0 (Nat.zero_le _) (by repeat (first | exact SubL.nil | refine SubL.cons rfl ?_)) (by repeat (first | exact SubH.nil | apply SubH.keep | apply SubH.drop | exact List.Sublist.refl _)) ?_
          intro pos hpos
          have hle := wholeS_le 65536 (wh.take pos)
          by_cases hlt : pos < wh.length
          · have hb : isD (wh.getD pos 0) := hwd _ (by simp [List.getD, hlt])
            unfold isD at hb
            have hdec := decode_low hlt (by omega)
            have e1 : wh.take (pos + 1) = wh.take pos ++ [wh.getD pos 0] := by rw [List.take_succ_eq_append_getElem hlt]; simp [List.getD, hlt]
            have e2 : ((wholeS 65536 (wh.take (pos + 1)) : Nat) : Int) = min ((wholeS 65536 (wh.take pos) : Int) * 10 + (((wh.getD pos 0).toNat : Int) - 48)) 65536 := by
              rw [e1, wholeS_snoc]; omega
            repeat' (first | ((show Wl _ _ _ _ _ _ _ _ _ _); first | (apply Wl.ev rfl rfl; (focus (first | ((show Ev _ _ _ _ _ _ _ (.move _) _ _); first | exact ev_move rfl) | ((show Ev _ _ _ _ _ _ _ (.assign _) _ _); first | exact ev_assign rfl) | ((show Ev _ _ _ _ _ _ _ (.binOp _ _ _ _ _) _ _); first | exact ev_add64 rfl rfl (by omega) | exact ev_mul64 rfl rfl (by omega) | exact ev_subK rfl rfl (by first | exact wrap64_in (by omega) | exact IntWalk.u8_in _ (by omega) | exact IntWalk.i32_in _ (by omega))) | ((show Ev _ _ _ _ _ _ _ (.extract _ _) _ _); first | exact ev_extract rfl rfl) | ((show Ev _ _ _ _ _ _ _ (.call _) _ _); first | exact ev_min rfl rfl) | ((show Ev _ _ _ _ _ _ _ (.convert _ _ _) _ _); first | exact ev_convK (dT rfl) (intT rfl) rfl (by first | exact wrap64_in (by omega) | exact IntWalk.u8_in _ (by omega) | exact IntWalk.i32_in _ (by omega)))))) | (refine wl_nextStr' (wd := 1) rfl rfl rfl hlt hdec (by repeat (first | exact Upd.here | apply Upd.there)) ?_) | apply Wl.nil) | ((show W _ _ _ _ _ _ _ _ _); first | apply W.seq | (refine W.again (pos + 1) ?_ ?_ (by rw [e2]; exact (by repeat (first | exact SubL.nil | refine SubL.cons rfl ?_))) (by repeat (first | exact SubH.nil | apply SubH.keep | apply SubH.drop | exact List.Sublist.refl _))) | apply W.region | apply W.block | apply W.blk | apply W.skip | (refine W.condT rfl ?_)))
            · omega
            · omega
          · have hpe : wh.take pos = wh := List.take_of_length_le (by omega)
            rw [hpe] at hle ⊢
            have hbin := binS_lt 17 0 (digs pa) (digs_lt hpd)
            have hback := digs_back hpd
            obtain ⟨B, hB⟩ : ∃ B, binS 17 0 (digs pa) = B := ⟨_, rfl⟩
            rw [hB] at hres hbin
            obtain ⟨N, hN⟩ : ∃ N, wholeS 65536 wh = N := ⟨_, rfl⟩
            rw [hN] at hres hle ⊢
            repeat' (first | ((show Wl _ _ _ _ _ _ _ _ _ _); first | (apply Wl.ev rfl rfl; (focus (first | ((show Ev _ _ _ _ _ _ _ (.move _) _ _); first | exact ev_move rfl) | ((show Ev _ _ _ _ _ _ _ (.assign _) _ _); first | exact ev_assign rfl) | ((show Ev _ _ _ _ _ _ _ (.binOp _ _ _ _ _) _ _); first | exact (ev_shl rfl rfl (by decide)).to (shl17_ok _ hle) | exact (ev_shr rfl rfl (by decide)).to (shr1_ok _ _) | exact ev_add64 rfl rfl (by omega)) | ((show Ev _ _ _ _ _ _ _ (.unOp _ _ _) _ _); first | exact ev_neg64 rfl (by omega)) | ((show Ev _ _ _ _ _ _ _ (.extract _ _) _ _); first | exact ev_extract rfl rfl) | ((show Ev _ _ _ _ _ _ _ (.next _ _) _ _); first | exact ev_nextStr_end rfl (by repeat (first | exact List.Mem.head _ | apply List.Mem.tail)) (by omega))))) | ((show Wl _ _ _ _ _ _ _ (⟨_, .call ⟨.value (.func 78), _, _⟩, _, _, _, _⟩ :: _) _ _); refine wl_call0 rfl rfl has78 rfl (fun w _ => (show Calls _ _ #[st pa] w (Give (.int .i64 (B : Nat)) w) from by have h := binary_ok (digs pa) (digs_lt hpd) (by rw [digs_len]; omega) w; rw [hback, hB] at h; exact h)) ?_) | ((show Wl _ _ _ _ _ _ _ (⟨_, .call ⟨.value (.func 79), _, _⟩, _, _, _, _⟩ :: _) _ _); refine wl_call0 rfl rfl has79 rfl (fun w _ => raw_ok _ w) ?_) | apply Wl.nil) | ((show W _ _ _ _ _ _ _ _ _); first | apply W.seq | apply W.region | apply W.skip | (refine W.exit rfl ?_) | (refine W.condF rfl ?_) | (refine W.condB rfl ?_ ?_ <;> (intro h; try (exfalso; first | contradiction | (simp_all; done)))) | (refine W.ret2 rfl rfl rfl ?_; intro w hs)))
            · exact ret_eq hs (by
                rw [h] at hmi
                rw [hres, if_neg hne, if_neg (not_not_intro hall), if_pos (of_decide_eq_true hmi)])
            · exact ret_eq hs (by
                rw [h] at hmi
                rw [hres, if_neg hne, if_neg (not_not_intro hall), if_neg (of_decide_eq_false hmi)])
      · refine W.loop (X := Nat) (fun _ => [(9, .bool false), (36, .pointer (some ⟨b, 0, none⟩))]) (fun pos => [⟨b, true, sobj s pos⟩]) (fun pos => pos ≤ s.length ∧ ∀ x ∈ s.take pos, isD x) (fun pos => s.length - pos) 0 ⟨Nat.zero_le _, by simp⟩ (by repeat (first | exact SubL.nil | refine SubL.cons rfl ?_)) (by repeat (first | exact SubH.nil | apply SubH.keep | apply SubH.drop | exact List.Sublist.refl _)) ?_
        rintro pos ⟨hpos, hpre⟩
        have hlt : pos < s.length := by
          refine Nat.lt_of_not_le fun hle => hall ?_
          rwa [List.take_of_length_le hle] at hpre
        by_cases hb : isD (s.getD pos 0)
        · have hst := hstep pos hlt hb hpre
          unfold isD at hb
          have hdec := decode_low hlt (by omega)
          repeat' (first | ((show Wl _ _ _ _ _ _ _ _ _ _); first | (apply Wl.ev rfl rfl; (focus (first | ((show Ev _ _ _ _ _ _ _ (.move _) _ _); first | exact ev_move rfl) | ((show Ev _ _ _ _ _ _ _ (.assign _) _ _); first | exact ev_assign rfl) | ((show Ev _ _ _ _ _ _ _ (.pick _ _ _) _ _); first | exact ev_pickF rfl rfl) | ((show Ev _ _ _ _ _ _ _ (.binOp _ _ _ _ _) _ _); first | exact ev_lti rfl rfl | exact ev_gti rfl rfl) | ((show Ev _ _ _ _ _ _ _ (.extract _ _) _ _); first | exact ev_extract rfl rfl)))) | (refine wl_nextStr' (wd := 1) rfl rfl rfl hlt hdec (by repeat (first | exact Upd.here | apply Upd.there)) ?_) | apply Wl.nil | ((fail_if_success (apply Wl.chk rfl)); refine Wl.split rfl rfl ?_ ?_ <;> (intro h; try (exfalso; first | contradiction | omega | exact h rfl | exact h ⟨rfl, rfl⟩ | (simp_all; done))))) | ((show W _ _ _ _ _ _ _ _ _); first | apply W.seq | (refine W.again (pos + 1) ?_ ?_ (by repeat (first | exact SubL.nil | refine SubL.cons rfl ?_)) (by repeat (first | exact SubH.nil | apply SubH.keep | apply SubH.drop | exact List.Sublist.refl _))) | apply W.region | apply W.block | apply W.blk | apply W.skip | (refine W.condT rfl ?_) | (refine W.cond rfl ?_ ?_ <;> (intro h; try (exfalso; first | contradiction | omega | exact h rfl | exact h ⟨rfl, rfl⟩ | (simp_all; done))))))
          · exact ⟨by omega, hst⟩
          · omega
        · have hdec : ∃ c wd, Utf8.decode ⟨s.toArray⟩ pos = (c, wd) ∧ ¬(48 ≤ c ∧ c ≤ 57) := by
            by_cases h8 : (s.getD pos 0).toNat < 128
            · exact ⟨_, _, decode_low hlt h8, hb⟩
            · have := decode_up hlt (by omega)
              exact ⟨(Utf8.decode ⟨s.toArray⟩ pos).1, (Utf8.decode ⟨s.toArray⟩ pos).2, rfl, by omega⟩
          obtain ⟨c, wd, hdec, hcb⟩ := hdec
          repeat' (first | ((show Wl _ _ _ _ _ _ _ _ _ _); first | (apply Wl.ev rfl rfl; (focus (first | ((show Ev _ _ _ _ _ _ _ (.move _) _ _); first | exact ev_move rfl) | ((show Ev _ _ _ _ _ _ _ (.assign _) _ _); first | exact ev_assign rfl) | ((show Ev _ _ _ _ _ _ _ (.pick _ _ _) _ _); first | exact ev_pickT rfl rfl | exact ev_pickF rfl rfl) | ((show Ev _ _ _ _ _ _ _ (.binOp _ _ _ _ _) _ _); first | exact ev_lti rfl rfl | exact ev_gti rfl rfl) | ((show Ev _ _ _ _ _ _ _ (.extract _ _) _ _); first | exact ev_extract rfl rfl)))) | (refine wl_nextStr' rfl rfl rfl hlt hdec (by repeat (first | exact Upd.here | apply Upd.there)) ?_) | apply Wl.nil | (refine Wl.skip rfl rfl ?_) | ((fail_if_success (apply Wl.chk rfl)); refine Wl.split rfl rfl ?_ ?_ <;> (intro h; try (exfalso; first | contradiction | omega | exact h rfl | exact h ⟨rfl, rfl⟩ | (simp_all; done))))) | ((show W _ _ _ _ _ _ _ _ _); first | apply W.seq | apply W.region | apply W.block | apply W.skip | (refine W.exit rfl ?_) | (refine W.condT rfl ?_) | (refine W.cond rfl ?_ ?_ <;> (intro h; try (exfalso; first | contradiction | omega | exact h rfl | exact h ⟨rfl, rfl⟩ | (simp_all; done)))) | (refine W.ret2 rfl rfl rfl ?_; intro w hs)))
          all_goals exact ret_eq hs (by rw [hres, if_neg hne, if_pos hall])
  · repeat' (first | ((show Wl _ _ _ _ _ _ _ _ _ _); first | (apply Wl.ev rfl rfl; (focus (first | ((show Ev _ _ _ _ _ _ _ (.move _) _ _); first | exact ev_move rfl) | ((show Ev _ _ _ _ _ _ _ (.assign _) _ _); first | exact ev_assign rfl) | ((show Ev _ _ _ _ _ _ _ (.binOp _ _ _ _ _) _ _); first | exact ev_gti rfl rfl) | ((show Ev _ _ _ _ _ _ _ (.call _) _ _); first | exact ev_len_string (strT rfl) rfl)))) | apply Wl.nil) | ((show W _ _ _ _ _ _ _ _ _); first | apply W.seq | apply W.region | apply W.scope0 | (refine W.cond rfl ?_ ?_ <;> (intro h; try (exfalso; first | contradiction | omega | exact h rfl | exact h ⟨rfl, rfl⟩ | (simp_all; done)))) | (refine W.ret2 rfl rfl rfl ?_; intro w hs)))
    exact ret_eq hs (by unfold parseS; rw [if_pos (by omega)])
end Go.Proofs.YthhfandandfeeaaDoor
