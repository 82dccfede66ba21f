/- Walks of functions of this seat, and what they compute: lemmas for the proofs of its statements. No condition. -/
import Derived.Test.YthhfandandfeeaaDoorR4
namespace Go.Proofs.YthhfandandfeeaaDoor
open Go.PB Go.RowKit
attribute [local irreducible] Go.Calls
/-- digits and one point: where the point is (below 0: there is none), how many digits -/
def scanS : List UInt8 → Nat → Int → Nat → Option (Int × Nat)
  | [], _, p, c => some (p, c)
  | b :: r, i, p, c => if isD b then scanS r (i + 1) p (c + 1) else if b = 46 ∧ p < 0 then scanS r (i + 1) i c else none
theorem scan_some : ∀ {t : List UInt8} {i : Nat} {p : Int} {c : Nat} {q : Int} {m : Nat}, scanS t i p c = some (q, m) →
    (q = p ∧ (∀ b ∈ t, isD b) ∧ m = c + t.length) ∨ (p < 0 ∧ ∃ k, k < t.length ∧ q = (i + k : Nat) ∧ t.getD k 0 = 46 ∧ (∀ b ∈ t.take k, isD b) ∧ (∀ b ∈ t.drop (k + 1), isD b) ∧ m + 1 = c + t.length)
  | [], i, p, c, q, m, h => by
    simp only [scanS, Option.some.injEq, Prod.mk.injEq] at h
    exact .inl ⟨h.1.symm, by simp, by simp [h.2]⟩
  | b :: r, i, p, c, q, m, h => by
    simp only [scanS] at h
    by_cases hb : isD b
    · rw [if_pos hb] at h
      rcases scan_some h with ⟨h1, h2, h3⟩ | ⟨h0, k, h1, h2, h3, h4, h5, h6⟩
      · exact .inl ⟨h1, by simpa [hb] using h2, by simp; omega⟩
      · refine .inr ⟨h0, k + 1, by simpa using h1, by omega, by simpa using h3, by simpa [hb] using h4, by simpa using h5, by simp; omega⟩
    · rw [if_neg hb] at h
      by_cases hp : b = 46 ∧ p < 0
      · rw [if_pos hp] at h
        rcases scan_some h with ⟨h1, h2, h3⟩ | ⟨h0, _⟩
        · exact .inr ⟨hp.2, 0, by simp, by simpa using h1, by simpa using hp.1, by simp, by simpa using h2, by simp; omega⟩
        · omega
      · rw [if_neg hp] at h
        cases h
/-- the whole part, the other part -/
def wh02 (p : Int) (t : List UInt8) : List UInt8 := if 0 ≤ p then t.take p.toNat else t
def pa02 (p : Int) (t : List UInt8) : List UInt8 := if 0 ≤ p then t.drop (p.toNat + 1) else []
def num02 (mi : Bool) (p : Int) (t : List UInt8) : Int :=
  rawS (if mi = true then -(((binS 17 (wholeS 1048576 (wh02 p t)) (digs (pa02 p t)) + 1) / 2 : Nat) : Int) else ((binS 17 (wholeS 1048576 (wh02 p t)) (digs (pa02 p t)) + 1) / 2 : Nat))
def after02 (mi : Bool) (t : List UInt8) : Option (Int × Nat) → Int × Int
  | none => (0, 120)
  | some (p, c) => if c = 0 then (0, 120) else (num02 mi p t, 0)
/-- the document's number of a text -/
def parse02S (l : List UInt8) : Int × Int :=
  if 40 < l.length then (0, 3) else after02 (decide (l.head? = some 45)) (if l.head? = some 45 then l.tail else l) (scanS (if l.head? = some 45 then l.tail else l) 0 (-1) 0)
theorem getD_mem {l : List UInt8} {i : Nat} (h : i < l.length) : l.getD i 0 ∈ l := by simp [List.getD, h]
theorem take_snoc {l : List UInt8} {i : Nat} (h : i < l.length) : l.take (i + 1) = l.take i ++ [l.getD i 0] := by rw [List.take_succ_eq_append_getElem h]; simp [List.getD, h]
theorem quo10_ok (d c : Nat) (hd : d < 10) (hc : c ≤ 1) : Value.int .u8 (IntKind.u8.wrap ((2 * (((48 + d : Nat) : Int) - 48) + (c : Int)).tdiv 10)) = .int .u8 (((2 * d + c) / 10 : Nat) : Int) := by
  have e : (2 * (((48 + d : Nat) : Int) - 48) + (c : Int)).tdiv 10 = (((2 * d + c) / 10 : Nat) : Int) := by
    rw [Int.tdiv_eq_ediv_of_nonneg (by omega)]
    omega
  rw [e, IntWalk.u8_in _ (by omega)]
theorem rem10_ok (d c : Nat) (hd : d < 10) (hc : c ≤ 1) : Value.int .u8 ((2 * (((48 + d : Nat) : Int) - 48) + (c : Int)).tmod 10) = .int .u8 (((2 * d + c) % 10 : Nat) : Int) := by
  have e : (2 * (((48 + d : Nat) : Int) - 48) + (c : Int)).tmod 10 = (((2 * d + c) % 10 : Nat) : Int) := by
    rw [Int.tmod_eq_emod_of_nonneg (by omega)]
    omega
  rw [e]
theorem half_ok (m : Nat) (h : m < 4611686018427387904) : Value.int .i64 (IntKind.i64.wrap (((m : Int) + 1).tdiv 2)) = .int .i64 (((m + 1) / 2 : Nat) : Int) := by
  have e : ((m : Int) + 1).tdiv 2 = (((m + 1) / 2 : Nat) : Int) := by
    rw [Int.tdiv_eq_ediv_of_nonneg (by omega)]
    omega
  rw [e, wrap64_in (by omega)]
set_option maxRecDepth 100000 in
set_option maxHeartbeats 8000000 in
theorem parse02_ok (l : List UInt8) (hlen : l.length < 4611686018427387904) (w : World) : Calls Tryd.prog 56 #[st l] w (Give (res2i (parse02S l)) w) := by
  refine give_of_W (vs := [st l]) Tryd.func56 rfl Tryd.ntmps56 (Nat.le_of_ble_eq_true rfl) (St.nil w _) ?_
  simp only [argL]
  by_cases hl : l.length ≤ 40
  · match l, hlen, hl with
    | [], hlen, hl =>
      repeat' (first | (apply gL; first | (apply Wl.ev rfl rfl; (focus (first | exact ev_move rfl | exact ev_assign rfl | exact ev_pickF rfl rfl | (apply gBin; first | exact ev_eqi rfl rfl | exact ev_nesF rfl rfl (by decide) | exact ev_lti rfl rfl | exact ev_gti rfl rfl) | (apply gCal; first | exact ev_len_string (strT rfl) rfl)))) | apply Wl.nil | (refine Wl.skip rfl rfl ?_)) | (apply gQ; first | (apply Wq.ev rfl rfl; (focus (first | exact ev_move rfl | exact ev_assign rfl | exact ev_pickF rfl rfl | (apply gBin; first | exact ev_eqi rfl rfl | exact ev_nesF rfl rfl (by decide) | exact ev_lti rfl rfl | exact ev_gti rfl rfl) | (apply gCal; first | exact ev_len_string (strT rfl) rfl))))) | ((show W _ _ _ _ _ _ _ _ _); first | apply W.seq | (refine W.rounds 1 ?_) | apply W.round | apply W.region | apply W.block | apply W.skip | (refine W.exit rfl ?_) | (refine W.condT rfl ?_) | (refine W.condF rfl ?_) | (refine W.ret2 rfl rfl rfl ?_; intro w hs)))
      all_goals exact ret_eq hs rfl
    | x :: l, hlen, hl =>
      by_cases hx : x = 45
      · have hxn : ((x.toNat : Int) = 45) := by rw [hx]; rfl
        repeat' (first | (apply gL; first | (apply Wl.ev rfl rfl; (focus (first | exact ev_move rfl | exact ev_assign rfl | exact ev_pickT rfl rfl | (apply gBin; first | exact ev_eqi rfl rfl | exact ev_nes rfl rfl | exact ev_gti rfl rfl) | (apply gCal; first | exact ev_len_string (strT rfl) rfl) | (apply gIdx; first | exact (ev_index_string (strT rfl) rfl rfl (by simp)).to (show Value.int .u8 _ = .int .u8 x.toNat from rfl)) | (apply gSli; first | exact ev_slice_string_lo (strT rfl) rfl rfl (by simp; omega))))) | apply Wl.nil) | (apply gQ; first | (apply Wq.ev rfl rfl; (focus (first | exact ev_move rfl | exact ev_assign rfl | exact ev_pickT rfl rfl | (apply gBin; first | exact ev_eqi rfl rfl | exact ev_nes rfl rfl | exact ev_gti rfl rfl) | (apply gCal; first | exact ev_len_string (strT rfl) rfl) | (apply gIdx; first | exact (ev_index_string (strT rfl) rfl rfl (by simp)).to (show Value.int .u8 _ = .int .u8 x.toNat from rfl)) | (apply gSli; first | exact ev_slice_string_lo (strT rfl) rfl rfl (by simp; omega)))))) | ((show W _ _ _ _ _ _ _ _ _); first | apply W.seq | apply W.region | apply W.block | apply W.skip | (refine W.cond rfl ?_ ?_ <;> (intro h; try (exfalso; first | contradiction | omega | exact h rfl | exact h ⟨rfl, rfl⟩ | (exact Bool.false_ne_true ((by assumption : _ = false).symm.trans h)) | (exact Bool.false_ne_true (h.symm.trans (by assumption))))))))
        have htl : (l).length ≤ 40 := by simp at hl ⊢; omega
        have hres : parse02S (x :: l) = after02 true (l) (scanS (l) 0 (-1) 0) := by
          unfold parse02S
          rw [if_neg (by simp at hl ⊢; omega)]
          simp [hx]
        obtain ⟨R, hR⟩ : ∃ R, parse02S (x :: l) = R := ⟨_, rfl⟩
        rw [hR] at hres ⊢
        obtain ⟨t, ht⟩ : ∃ t, l = t := ⟨_, rfl⟩
        rw [ht] at htl hres
        obtain ⟨sc, hsc⟩ : ∃ sc, scanS t 0 (-1) 0 = sc := ⟨_, rfl⟩
        rw [hsc] at hres
        refine W.loop (X := Nat × Int × Nat) (fun q => [(0, st t), (4, .bool (decide ((x.toNat : Int) = 45))), (5, .int .i64 q.2.1), (6, .int .i64 (q.2.2 : Nat)), (31, .int .i64 (t.length : Nat)), (32, .int .i64 (q.1 : Nat))]) (fun _ => [])
          (fun q => q.1 ≤ t.length ∧ q.2.2 ≤ q.1 ∧ -1 ≤ q.2.1 ∧ q.2.1 < q.1 ∧ scanS (t.drop q.1) q.1 q.2.1 q.2.2 = sc) (fun q => t.length - q.1) (0, -1, 0) ⟨Nat.zero_le _, Nat.le_refl _, by simp, by simp, hsc⟩ (by rw [← ht]; exact (by repeat (first | exact SubL.nil | refine SubL.cons rfl ?_))) (by repeat (first | exact SubH.nil | apply SubH.keep | apply SubH.drop | exact List.Sublist.refl _)) ?_
        rintro ⟨i, p, c⟩ ⟨hi, hci, hp1, hp, hs0⟩
        simp only at hi hci hp1 hp hs0 ⊢
        by_cases hlt : i < t.length
        · have hd : t.drop i = t.getD i 0 :: t.drop (i + 1) := by rw [List.drop_eq_getElem_cons hlt]; simp [List.getD, hlt]
          rw [hd] at hs0
          simp only [scanS] at hs0
          by_cases hb : isD (t.getD i 0)
          · rw [if_pos hb] at hs0
            unfold isD at hb
            repeat' (first | (apply gL; first | (apply Wl.ev rfl rfl; (focus (first | exact ev_move rfl | exact ev_assign rfl | exact ev_pickT rfl rfl | (apply gBin; first | exact ev_lti rfl rfl | exact ev_lei rfl rfl | exact ev_gei rfl rfl | exact ev_add64 rfl rfl (by omega)) | (apply gIdx; first | exact (ev_index_string (strT rfl) rfl rfl (by omega)).to (show Value.int .u8 _ = .int .u8 (t.getD i 0).toNat from rfl))))) | apply Wl.nil | ((fail_if_success (apply Wl.chk rfl)); refine Wl.split rfl rfl ?_ ?_ <;> (intro h; try (exfalso; first | contradiction | omega | exact h rfl | exact h ⟨rfl, rfl⟩ | (exact Bool.false_ne_true ((by assumption : _ = false).symm.trans h)) | (exact Bool.false_ne_true (h.symm.trans (by assumption))))))) | (apply gQ; first | (apply Wq.ev rfl rfl; (focus (first | exact ev_move rfl | exact ev_assign rfl | exact ev_pickT rfl rfl | (apply gBin; first | exact ev_lti rfl rfl | exact ev_lei rfl rfl | exact ev_gei rfl rfl | exact ev_add64 rfl rfl (by omega)) | (apply gIdx; first | exact (ev_index_string (strT rfl) rfl rfl (by omega)).to (show Value.int .u8 _ = .int .u8 (t.getD i 0).toNat from rfl)))))) | ((show W _ _ _ _ _ _ _ _ _); first | apply W.seq | (refine W.again (i + 1, p, c + 1) ?_ ?_ (by repeat (first | exact SubL.nil | refine SubL.cons rfl ?_)) (by repeat (first | exact SubH.nil | apply SubH.keep | apply SubH.drop | exact List.Sublist.refl _))) | apply W.region | apply W.block | apply W.blk | apply W.skip | (refine W.cond rfl ?_ ?_ <;> (intro h; try (exfalso; first | contradiction | omega | exact h rfl | exact h ⟨rfl, rfl⟩ | (exact Bool.false_ne_true ((by assumption : _ = false).symm.trans h)) | (exact Bool.false_ne_true (h.symm.trans (by assumption))))))))
            · exact ⟨by simp only; omega, by simp only; omega, hp1, by simp only; omega, hs0⟩
            · simp only; omega
          · rw [if_neg hb] at hs0
            have hbn : ¬(48 ≤ (t.getD i 0).toNat ∧ (t.getD i 0).toNat ≤ 57) := hb
            by_cases hq : t.getD i 0 = 46 ∧ p < 0
            · rw [if_pos hq] at hs0
              have hq1 : ((t.getD i 0).toNat : Int) = 46 := by rw [hq.1]; rfl
              have hq2 := hq.2
              repeat' (first | (apply gL; first | (apply Wl.ev rfl rfl; (focus (first | exact ev_move rfl | exact ev_assign rfl | (apply gPic; first | exact ev_pickT rfl rfl | exact ev_pickF rfl rfl) | (apply gBin; first | exact ev_eqi rfl rfl | exact ev_lti rfl rfl | exact ev_gei rfl rfl | exact ev_add64 rfl rfl (by omega)) | (apply gIdx; first | exact (ev_index_string (strT rfl) rfl rfl (by omega)).to (show Value.int .u8 _ = .int .u8 (t.getD i 0).toNat from rfl))))) | apply Wl.nil | (refine Wl.skip rfl rfl ?_) | ((fail_if_success (apply Wl.chk rfl)); refine Wl.split rfl rfl ?_ ?_ <;> (intro h; try (exfalso; first | contradiction | omega | exact h rfl | exact h ⟨rfl, rfl⟩ | (exact Bool.false_ne_true ((by assumption : _ = false).symm.trans h)) | (exact Bool.false_ne_true (h.symm.trans (by assumption))))))) | (apply gQ; first | (apply Wq.ev rfl rfl; (focus (first | exact ev_move rfl | exact ev_assign rfl | (apply gPic; first | exact ev_pickT rfl rfl | exact ev_pickF rfl rfl) | (apply gBin; first | exact ev_eqi rfl rfl | exact ev_lti rfl rfl | exact ev_gei rfl rfl | exact ev_add64 rfl rfl (by omega)) | (apply gIdx; first | exact (ev_index_string (strT rfl) rfl rfl (by omega)).to (show Value.int .u8 _ = .int .u8 (t.getD i 0).toNat from rfl)))))) | ((show W _ _ _ _ _ _ _ _ _); first | apply W.seq | (refine W.again (i + 1, (i : Int), c) ?_ ?_ (by repeat (first | exact SubL.nil | refine SubL.cons rfl ?_)) (by repeat (first | exact SubH.nil | apply SubH.keep | apply SubH.drop | exact List.Sublist.refl _))) | apply W.region | apply W.block | apply W.blk | apply W.skip | (refine W.condF rfl ?_) | (refine W.cond rfl ?_ ?_ <;> (intro h; try (exfalso; first | contradiction | omega | exact h rfl | exact h ⟨rfl, rfl⟩ | (exact Bool.false_ne_true ((by assumption : _ = false).symm.trans h)) | (exact Bool.false_ne_true (h.symm.trans (by assumption))))))))
              · exact ⟨by simp only; omega, by simp only; omega, by simp only; omega, by simp only; omega, hs0⟩
              · simp only; omega
            · rw [if_neg hq] at hs0
              have hqn : ¬(((t.getD i 0).toNat : Int) = 46 ∧ p < 0) := fun h => hq ⟨UInt8.toNat_inj.1 (by have := h.1; show _ = 46; omega), h.2⟩
              repeat' (first | (apply gL; first | (apply Wl.ev rfl rfl; (focus (first | exact ev_move rfl | exact ev_assign rfl | (apply gPic; first | exact ev_pickT rfl rfl | exact ev_pickF rfl rfl) | (apply gBin; first | exact ev_eqi rfl rfl | exact ev_lti rfl rfl | exact ev_lei rfl rfl | exact ev_gei rfl rfl) | (apply gIdx; first | exact (ev_index_string (strT rfl) rfl rfl (by omega)).to (show Value.int .u8 _ = .int .u8 (t.getD i 0).toNat from rfl))))) | apply Wl.nil | (refine Wl.skip rfl rfl ?_) | ((fail_if_success (apply Wl.chk rfl)); refine Wl.split rfl rfl ?_ ?_ <;> (intro h; try (exfalso; first | contradiction | omega | exact h rfl | exact h ⟨rfl, rfl⟩ | (exact Bool.false_ne_true ((by assumption : _ = false).symm.trans h)) | (exact Bool.false_ne_true (h.symm.trans (by assumption))))))) | (apply gQ; first | (apply Wq.ev rfl rfl; (focus (first | exact ev_move rfl | exact ev_assign rfl | (apply gPic; first | exact ev_pickT rfl rfl | exact ev_pickF rfl rfl) | (apply gBin; first | exact ev_eqi rfl rfl | exact ev_lti rfl rfl | exact ev_lei rfl rfl | exact ev_gei rfl rfl) | (apply gIdx; first | exact (ev_index_string (strT rfl) rfl rfl (by omega)).to (show Value.int .u8 _ = .int .u8 (t.getD i 0).toNat from rfl)))))) | ((show W _ _ _ _ _ _ _ _ _); first | apply W.seq | apply W.region | apply W.block | apply W.skip | (refine W.condF rfl ?_) | (refine W.cond rfl ?_ ?_ <;> (intro h; try (exfalso; first | contradiction | omega | exact h rfl | exact h ⟨rfl, rfl⟩ | (exact Bool.false_ne_true ((by assumption : _ = false).symm.trans h)) | (exact Bool.false_ne_true (h.symm.trans (by assumption)))))) | (refine W.ret2 rfl rfl rfl ?_; intro w hs)))
              all_goals exact ret_eq hs (by rw [hres, ← hs0]; rfl)
        · have hie : i = t.length := by omega
          subst hie
          rw [List.drop_length] at hs0
          simp only [scanS] at hs0
          have hsome := scan_some (hsc.trans hs0.symm)
          rcases hsome with hsome | hsome
          · obtain ⟨rfl, hall, hcl⟩ := hsome
            have hwh : wh02 (-1) t = t := rfl
            have hpa : pa02 (-1) t = [] := rfl
            have hwd : ∀ b ∈ t, isD b := hall
            have hpd : ∀ b ∈ ([] : List UInt8), isD b := by simp
            have hwl : (t).length ≤ 40 := by first | omega | (simp; omega)
            have hpl : (([] : List UInt8)).length ≤ 40 := by first | (simp; done) | (simp; omega)
            have hnum : num02 true (-1) t = rawS (if true = true then -(((binS 17 (wholeS 1048576 (t)) (digs ([])) + 1) / 2 : Nat) : Int) else ((binS 17 (wholeS 1048576 (t)) (digs ([])) + 1) / 2 : Nat)) := by
              unfold num02
              rw [hwh, hpa]
            repeat' (first | (apply gL; first | (apply Wl.ev rfl rfl; (focus (first | exact ev_move rfl | exact ev_assign rfl | (apply gBin; first | exact ev_eqi rfl rfl | exact ev_lti rfl rfl | exact ev_gei rfl rfl) | (apply gCal; first | exact ev_len_string (strT rfl) rfl)))) | apply Wl.nil) | (apply gQ; first | (apply Wq.ev rfl rfl; (focus (first | exact ev_move rfl | exact ev_assign rfl | (apply gBin; first | exact ev_eqi rfl rfl | exact ev_lti rfl rfl | exact ev_gei rfl rfl) | (apply gCal; first | exact ev_len_string (strT rfl) rfl))))) | ((show W _ _ _ _ _ _ _ _ _); first | apply W.seq | apply W.region | apply W.block | apply W.skip | (refine W.exit rfl ?_) | (refine W.condF rfl ?_) | (refine W.cond rfl ?_ ?_ <;> (intro h; try (exfalso; first | contradiction | omega | exact h rfl | exact h ⟨rfl, rfl⟩ | (exact Bool.false_ne_true ((by assumption : _ = false).symm.trans h)) | (exact Bool.false_ne_true (h.symm.trans (by assumption)))))) | (refine W.ret2 rfl rfl rfl ?_; intro w hs)))
            try (any_goals exact ret_eq hs (by rw [hres, ← hs0]; simp only [after02]; rw [if_pos (by omega)]))
            · refine W.loop (X := Nat) (fun i => [(4, .bool (decide ((x.toNat : Int) = 45))), (8, st (t)), (9, st ([])), (10, .int .i64 ((wholeS 1048576 ((t).take i) : Nat) : Int)), (72, .int .i64 ((t).length : Nat)), (73, .int .i64 (i : Nat))]) (fun _ => []) (fun i => i ≤ (t).length) (fun i => (t).length - i) 0 (Nat.zero_le _) (by repeat (first | exact SubL.nil | refine SubL.cons rfl ?_)) (by repeat (first | exact SubH.nil | apply SubH.keep | apply SubH.drop | exact List.Sublist.refl _)) ?_
              rename_i hcn
              intro i hi
              have hle := wholeS_le 1048576 ((t).take i)
              by_cases hlt : i < (t).length
              · have hb : isD ((t).getD i 0) := hwd _ (getD_mem hlt)
                unfold isD at hb
                have e1 : (t).take (i + 1) = (t).take i ++ [(t).getD i 0] := take_snoc hlt
                have e2 : ((wholeS 1048576 ((t).take (i + 1)) : Nat) : Int) = min (10 * (wholeS 1048576 ((t).take i) : Int) + ((((t).getD i 0).toNat : Int) - 48)) 1048576 := by
                  rw [e1, wholeS_snoc]; omega
                repeat' (first | (apply gL; first | (apply Wl.ev rfl rfl; (focus (first | exact ev_move rfl | exact ev_assign rfl | (apply gBin; first | exact ev_lti rfl rfl | exact ev_add64 rfl rfl (by omega) | exact ev_mul64 rfl rfl (by omega) | exact ev_subK rfl rfl (by first | exact wrap64_in (by omega) | exact IntWalk.u8_in _ (by omega) | exact IntWalk.i32_in _ (by omega))) | exact ev_min rfl rfl | (apply gIdx; first | exact (ev_index_string (strT rfl) rfl rfl (by omega)).to (show Value.int .u8 _ = .int .u8 ((t).getD i 0).toNat from rfl)) | (apply gCon; first | exact ev_convK (dT rfl) (intT rfl) rfl (by first | exact wrap64_in (by omega) | exact IntWalk.u8_in _ (by omega) | exact IntWalk.i32_in _ (by omega)))))) | apply Wl.nil) | ((show W _ _ _ _ _ _ _ _ _); first | apply W.seq | (refine W.again (i + 1) ?_ ?_ (by rw [e2]; exact (by repeat (first | exact SubL.nil | refine SubL.cons rfl ?_))) (by repeat (first | exact SubH.nil | apply SubH.keep | apply SubH.drop | exact List.Sublist.refl _))) | apply W.region | apply W.block | apply W.blk | apply W.skip | (refine W.cond rfl ?_ ?_ <;> (intro h; try (exfalso; first | contradiction | omega | exact h rfl | exact h ⟨rfl, rfl⟩ | (exact Bool.false_ne_true ((by assumption : _ = false).symm.trans h)) | (exact Bool.false_ne_true (h.symm.trans (by assumption))))))))
                · omega
                · omega
              · have hpe : (t).take i = t := List.take_of_length_le (by omega)
                rw [hpe] at hle ⊢
                obtain ⟨N, hN⟩ : ∃ N, wholeS 1048576 (t) = N := ⟨_, rfl⟩
                rw [hN] at hnum hle ⊢
                obtain ⟨ds, hds⟩ : ∃ ds, digs ([]) = ds := ⟨_, rfl⟩
                have hback := digs_back hpd
                have hd := digs_lt hpd
                have hdl := digs_len ([])
                rw [hds] at hnum hback hd hdl
                have hdsl : ds.length ≤ 40 := by rw [hdl]; exact hpl
                rw [← hback]
                repeat' (first | (apply gL; first | (apply Wl.ev rfl rfl; (focus (first | exact ev_move rfl | exact ev_assign rfl | exact ev_lti rfl rfl))) | apply Wl.nil | (refine wl_strBytes rfl rfl (strT rfl) (slT rfl) (intT rfl) rfl ?_; intro b cap hcap)) | ((show W _ _ _ _ _ _ _ _ _); first | apply W.seq | apply W.region | apply W.block | (refine W.exit rfl ?_) | (refine W.cond rfl ?_ ?_ <;> (intro h; try (exfalso; first | contradiction | omega | exact h rfl | exact h ⟨rfl, rfl⟩ | (exact Bool.false_ne_true ((by assumption : _ = false).symm.trans h)) | (exact Bool.false_ne_true (h.symm.trans (by assumption))))))))
                rw [digB_len] at hcap ⊢
                rw [digB_cells ds hd]
                obtain ⟨z, hz⟩ : ∃ z, cap - ds.length = z := ⟨_, rfl⟩
                rw [hz]
                refine W.loop (X := Nat × Nat × List Nat) (fun q => [(4, .bool (decide ((x.toNat : Int) = 45))), (12, .slice (some ⟨b, 0, none⟩) ds.length cap), (13, .int .i64 (q.2.1 : Nat)), (89, .int .i64 (q.1 : Nat))]) (fun q => [⟨b, true, .cells (digC q.2.2 z) 5 (cap, cap + 1)⟩])
                  (fun q => q.1 ≤ 17 ∧ q.2.1 < 1048577 * 2 ^ q.1 ∧ q.2.2.length = ds.length ∧ (∀ d ∈ q.2.2, d < 10) ∧ binS (17 - q.1) q.2.1 q.2.2 = binS 17 N ds) (fun q => 17 - q.1) (0, N, ds) ⟨by omega, by simp; omega, rfl, hd, rfl⟩ (by repeat (first | exact SubL.nil | refine SubL.cons rfl ?_)) (by repeat (first | exact SubH.nil | apply SubH.keep | apply SubH.drop | exact List.Sublist.refl _)) ?_
                rintro ⟨r, m, es⟩ ⟨hr, hm, hel, hed, heq⟩
                simp only at hr hm hel hed heq ⊢
                have hm2 : m < 1048577 * 131072 := Nat.lt_of_lt_of_le hm (Nat.mul_le_mul_left _ (Nat.pow_le_pow_right (by omega) hr))
                by_cases hlt : r < 17
                · repeat' (first | (apply gL; first | (apply Wl.ev rfl rfl; (focus (first | exact ev_move rfl | exact ev_assign rfl | (apply gBin; first | exact ev_lti rfl rfl | exact ev_sub64 rfl rfl (by omega)) | (apply gCal; first | exact ev_len_slice (slT rfl) rfl)))) | apply Wl.nil) | ((show W _ _ _ _ _ _ _ _ _); first | apply W.seq | apply W.region | apply W.block | apply W.skip | (refine W.cond rfl ?_ ?_ <;> (intro h; try (exfalso; first | contradiction | omega | exact h rfl | exact h ⟨rfl, rfl⟩ | (exact Bool.false_ne_true ((by assumption : _ = false).symm.trans h)) | (exact Bool.false_ne_true (h.symm.trans (by assumption))))))))
                  refine W.loop (X := Nat × Nat × List Nat) (fun q => [(4, .bool (decide ((x.toNat : Int) = 45))), (12, .slice (some ⟨b, 0, none⟩) ds.length cap), (13, .int .i64 (m : Nat)), (14, .int .u8 (q.2.1 : Nat)), (15, .int .i64 ((ds.length : Int) - 1 - (q.1 : Nat))), (89, .int .i64 (r : Nat))]) (fun q => [⟨b, true, .cells (digC (es.take (es.length - q.1) ++ q.2.2) z) 5 (cap, cap + 1)⟩])
                    (fun q => q.1 ≤ es.length ∧ dbl (es.drop (es.length - q.1)) = (q.2.1, q.2.2)) (fun q => es.length - q.1) (0, 0, []) ⟨by omega, by simp [dbl]⟩ (by show SubL [(4, _), (12, _), (13, _), (14, Value.int .u8 0), (15, Value.int .i64 ((ds.length : Int) - 1 - 0)), (89, _)] _; rw [Int.sub_zero]; exact (by repeat (first | exact SubL.nil | refine SubL.cons rfl ?_))) (by simp only [Nat.sub_zero, List.take_length, List.append_nil]; exact (by repeat (first | exact SubH.nil | apply SubH.keep | apply SubH.drop | exact List.Sublist.refl _))) ?_
                  rintro ⟨i, c, res⟩ ⟨hi, hdb⟩
                  simp only at hi hdb ⊢
                  by_cases hil : i < es.length
                  · exact absurd hil (by have h0 : ds.length = 0 := hdl; omega)
                  · have hii : i = es.length := by omega
                    subst hii
                    rw [Nat.sub_self] at hdb ⊢
                    rw [List.drop_zero] at hdb
                    simp only [List.take_zero, List.nil_append]
                    have hc1 : c ≤ 1 := by
                      have := dbl_carry es hed
                      rw [hdb] at this
                      exact this
                    repeat' (first | (apply gL; first | (apply Wl.ev rfl rfl; (focus (first | exact ev_move rfl | exact ev_assign rfl | (apply gBin; first | exact ev_gei rfl rfl | exact ev_add64 rfl rfl (by omega) | exact ev_mul64 rfl rfl (by omega)) | (apply gCon; first | exact ev_convK (dT rfl) (intT rfl) rfl (by first | exact wrap64_in (by omega) | exact IntWalk.u8_in _ (by omega) | exact IntWalk.i32_in _ (by omega)))))) | apply Wl.nil) | ((show W _ _ _ _ _ _ _ _ _); first | apply W.seq | (refine W.again (r + 1, 2 * m + c, res) ?_ ?_ (by repeat (first | exact SubL.nil | refine SubL.cons rfl ?_)) (by repeat (first | exact SubH.nil | apply SubH.keep | apply SubH.drop | exact List.Sublist.refl _))) | apply W.region | apply W.blk | (refine W.exit rfl ?_) | (refine W.cond rfl ?_ ?_ <;> (intro h; try (exfalso; first | contradiction | omega | exact h rfl | exact h ⟨rfl, rfl⟩ | (exact Bool.false_ne_true ((by assumption : _ = false).symm.trans h)) | (exact Bool.false_ne_true (h.symm.trans (by assumption))))))))
                    · refine ⟨by simp only; omega, ?_, ?_, ?_, ?_⟩
                      · simp only
                        rw [Nat.pow_succ]; omega
                      · have := dbl_len es
                        rw [hdb] at this
                        simp only at this ⊢
                        omega
                      · have := dbl_digit es
                        rw [hdb] at this
                        exact this
                      · rw [← heq, show 17 - r = (17 - (r + 1)) + 1 by omega]
                        simp only [binS_succ, hdb]
                    · simp only; omega
                · have h17 : r = 17 := by omega
                  subst h17
                  have hBm : m = binS 17 N ds := by rw [← heq]; exact (binS_zero _ _).symm
                  repeat' (first | (apply gL; first | (apply Wl.ev rfl rfl; (focus (first | exact ev_move rfl | exact ev_assign rfl | (apply gBin; first | exact (ev_quo rfl rfl (by decide)).to (half_ok _ (by omega)) | exact ev_lti rfl rfl | exact ev_add64 rfl rfl (by omega)) | (apply gUn; first | exact ev_neg64 rfl (by omega))))) | ((show Wl _ _ _ _ _ _ _ (⟨_, .call ⟨.value (.func 69), _, _⟩, _, _, _, _⟩ :: _) _ _); refine wl_call0 rfl rfl has69 rfl (fun w _ => raw02_ok _ w) ?_) | apply Wl.nil) | ((show W _ _ _ _ _ _ _ _ _); first | apply W.seq | apply W.region | (refine W.exit rfl ?_) | (refine W.condF rfl ?_) | (refine W.cond rfl ?_ ?_ <;> (intro h; try (exfalso; first | contradiction | omega | exact h rfl | exact h ⟨rfl, rfl⟩ | (exact Bool.false_ne_true ((by assumption : _ = false).symm.trans h)) | (exact Bool.false_ne_true (h.symm.trans (by assumption)))))) | (refine W.ret2 rfl rfl rfl ?_; intro w hs)))
                  exact ret_eq hs (by rw [hres, ← hs0]; simp only [after02]; rw [if_neg (by omega), hnum, ← hBm]; rfl)
          · obtain ⟨_, k0, hk0, hpk, h46, hwd, hpd, hcl⟩ := hsome
            rw [Nat.zero_add] at hpk
            subst hpk
            have hwh : wh02 (k0 : Int) t = t.take k0 := by simp [wh02]
            have hpa : pa02 (k0 : Int) t = t.drop (k0 + 1) := by simp [pa02]
            have hwl : (t.take k0).length ≤ 40 := by first | omega | (simp; omega)
            have hpl : (t.drop (k0 + 1)).length ≤ 40 := by first | (simp; done) | (simp; omega)
            have hnum : num02 true (k0 : Int) t = rawS (if true = true then -(((binS 17 (wholeS 1048576 (t.take k0)) (digs (t.drop (k0 + 1))) + 1) / 2 : Nat) : Int) else ((binS 17 (wholeS 1048576 (t.take k0)) (digs (t.drop (k0 + 1))) + 1) / 2 : Nat)) := by
              unfold num02
              rw [hwh, hpa]
            repeat' (first | (apply gL; first | (apply Wl.ev rfl rfl; (focus (first | exact ev_move rfl | exact ev_assign rfl | (apply gBin; first | exact ev_eqi rfl rfl | exact ev_lti rfl rfl | exact ev_gei rfl rfl | exact ev_add64 rfl rfl (by omega)) | (apply gCal; first | exact ev_len_string (strT rfl) rfl) | (apply gSli; first | exact ev_slice_string_hi (strT rfl) rfl rfl (by omega) | exact ev_slice_string_lo (strT rfl) rfl rfl (by omega))))) | apply Wl.nil) | (apply gQ; first | (apply Wq.ev rfl rfl; (focus (first | exact ev_move rfl | exact ev_assign rfl | (apply gBin; first | exact ev_eqi rfl rfl | exact ev_lti rfl rfl | exact ev_gei rfl rfl | exact ev_add64 rfl rfl (by omega)) | (apply gCal; first | exact ev_len_string (strT rfl) rfl) | (apply gSli; first | exact ev_slice_string_hi (strT rfl) rfl rfl (by omega) | exact ev_slice_string_lo (strT rfl) rfl rfl (by omega))))) | apply Wq.nil) | ((show W _ _ _ _ _ _ _ _ _); first | apply W.seq | (refine W.regionQ mixed (by kernel_rfl) ?_) | apply W.region | apply W.block | apply W.skip | (refine W.exit rfl ?_) | (refine W.condT rfl ?_) | (refine W.cond rfl ?_ ?_ <;> (intro h; try (exfalso; first | contradiction | omega | exact h rfl | exact h ⟨rfl, rfl⟩ | (exact Bool.false_ne_true ((by assumption : _ = false).symm.trans h)) | (exact Bool.false_ne_true (h.symm.trans (by assumption)))))) | (refine W.ret2 rfl rfl rfl ?_; intro w hs)))
            try (any_goals exact ret_eq hs (by rw [hres, ← hs0]; simp only [after02]; rw [if_pos (by omega)]))
            · refine W.loop (X := Nat) (fun i => [(4, .bool (decide ((x.toNat : Int) = 45))), (8, st (t.take k0)), (9, st (t.drop (k0 + 1))), (10, .int .i64 ((wholeS 1048576 ((t.take k0).take i) : Nat) : Int)), (72, .int .i64 ((t.take k0).length : Nat)), (73, .int .i64 (i : Nat))]) (fun _ => []) (fun i => i ≤ (t.take k0).length) (fun i => (t.take k0).length - i) 0 (Nat.zero_le _) (by repeat (first | exact SubL.nil | refine SubL.cons rfl ?_)) (by repeat (first | exact SubH.nil | apply SubH.keep | apply SubH.drop | exact List.Sublist.refl _)) ?_
              rename_i hcn
              intro i hi
              have hle := wholeS_le 1048576 ((t.take k0).take i)
              by_cases hlt : i < (t.take k0).length
              · have hb : isD ((t.take k0).getD i 0) := hwd _ (getD_mem hlt)
                unfold isD at hb
                have e1 : (t.take k0).take (i + 1) = (t.take k0).take i ++ [(t.take k0).getD i 0] := take_snoc hlt
                have e2 : ((wholeS 1048576 ((t.take k0).take (i + 1)) : Nat) : Int) = min (10 * (wholeS 1048576 ((t.take k0).take i) : Int) + ((((t.take k0).getD i 0).toNat : Int) - 48)) 1048576 := by
                  rw [e1, wholeS_snoc]; omega
                repeat' (first | (apply gL; first | (apply Wl.ev rfl rfl; (focus (first | exact ev_move rfl | exact ev_assign rfl | (apply gBin; first | exact ev_lti rfl rfl | exact ev_add64 rfl rfl (by omega) | exact ev_mul64 rfl rfl (by omega) | exact ev_subK rfl rfl (by first | exact wrap64_in (by omega) | exact IntWalk.u8_in _ (by omega) | exact IntWalk.i32_in _ (by omega))) | exact ev_min rfl rfl | (apply gIdx; first | exact (ev_index_string (strT rfl) rfl rfl (by omega)).to (show Value.int .u8 _ = .int .u8 ((t.take k0).getD i 0).toNat from rfl)) | (apply gCon; first | exact ev_convK (dT rfl) (intT rfl) rfl (by first | exact wrap64_in (by omega) | exact IntWalk.u8_in _ (by omega) | exact IntWalk.i32_in _ (by omega)))))) | apply Wl.nil) | ((show W _ _ _ _ _ _ _ _ _); first | apply W.seq | (refine W.again (i + 1) ?_ ?_ (by rw [e2]; exact (by repeat (first | exact SubL.nil | refine SubL.cons rfl ?_))) (by repeat (first | exact SubH.nil | apply SubH.keep | apply SubH.drop | exact List.Sublist.refl _))) | apply W.region | apply W.block | apply W.blk | apply W.skip | (refine W.cond rfl ?_ ?_ <;> (intro h; try (exfalso; first | contradiction | omega | exact h rfl | exact h ⟨rfl, rfl⟩ | (exact Bool.false_ne_true ((by assumption : _ = false).symm.trans h)) | (exact Bool.false_ne_true (h.symm.trans (by assumption))))))))
                · omega
                · omega
              · have hpe : (t.take k0).take i = t.take k0 := List.take_of_length_le (by omega)
                rw [hpe] at hle ⊢
                obtain ⟨N, hN⟩ : ∃ N, wholeS 1048576 (t.take k0) = N := ⟨_, rfl⟩
                rw [hN] at hnum hle ⊢
                obtain ⟨ds, hds⟩ : ∃ ds, digs (t.drop (k0 + 1)) = ds := ⟨_, rfl⟩
                have hback := digs_back hpd
                have hd := digs_lt hpd
                have hdl := digs_len (t.drop (k0 + 1))
                rw [hds] at hnum hback hd hdl
                have hdsl : ds.length ≤ 40 := by rw [hdl]; exact hpl
                rw [← hback]
                repeat' (first | (apply gL; first | (apply Wl.ev rfl rfl; (focus (first | exact ev_move rfl | exact ev_assign rfl | exact ev_lti rfl rfl))) | apply Wl.nil | (refine wl_strBytes rfl rfl (strT rfl) (slT rfl) (intT rfl) rfl ?_; intro b cap hcap)) | ((show W _ _ _ _ _ _ _ _ _); first | apply W.seq | apply W.region | apply W.block | (refine W.exit rfl ?_) | (refine W.cond rfl ?_ ?_ <;> (intro h; try (exfalso; first | contradiction | omega | exact h rfl | exact h ⟨rfl, rfl⟩ | (exact Bool.false_ne_true ((by assumption : _ = false).symm.trans h)) | (exact Bool.false_ne_true (h.symm.trans (by assumption))))))))
                rw [digB_len] at hcap ⊢
                rw [digB_cells ds hd]
                obtain ⟨z, hz⟩ : ∃ z, cap - ds.length = z := ⟨_, rfl⟩
                rw [hz]
                refine W.loop (X := Nat × Nat × List Nat) (fun q => [(4, .bool (decide ((x.toNat : Int) = 45))), (12, .slice (some ⟨b, 0, none⟩) ds.length cap), (13, .int .i64 (q.2.1 : Nat)), (89, .int .i64 (q.1 : Nat))]) (fun q => [⟨b, true, .cells (digC q.2.2 z) 5 (cap, cap + 1)⟩])
                  (fun q => q.1 ≤ 17 ∧ q.2.1 < 1048577 * 2 ^ q.1 ∧ q.2.2.length = ds.length ∧ (∀ d ∈ q.2.2, d < 10) ∧ binS (17 - q.1) q.2.1 q.2.2 = binS 17 N ds) (fun q => 17 - q.1) (0, N, ds) ⟨by omega, by simp; omega, rfl, hd, rfl⟩ (by repeat (first | exact SubL.nil | refine SubL.cons rfl ?_)) (by repeat (first | exact SubH.nil | apply SubH.keep | apply SubH.drop | exact List.Sublist.refl _)) ?_
                rintro ⟨r, m, es⟩ ⟨hr, hm, hel, hed, heq⟩
                simp only at hr hm hel hed heq ⊢
                have hm2 : m < 1048577 * 131072 := Nat.lt_of_lt_of_le hm (Nat.mul_le_mul_left _ (Nat.pow_le_pow_right (by omega) hr))
                by_cases hlt : r < 17
                · repeat' (first | (apply gL; first | (apply Wl.ev rfl rfl; (focus (first | exact ev_move rfl | exact ev_assign rfl | (apply gBin; first | exact ev_lti rfl rfl | exact ev_sub64 rfl rfl (by omega)) | (apply gCal; first | exact ev_len_slice (slT rfl) rfl)))) | apply Wl.nil) | ((show W _ _ _ _ _ _ _ _ _); first | apply W.seq | apply W.region | apply W.block | apply W.skip | (refine W.cond rfl ?_ ?_ <;> (intro h; try (exfalso; first | contradiction | omega | exact h rfl | exact h ⟨rfl, rfl⟩ | (exact Bool.false_ne_true ((by assumption : _ = false).symm.trans h)) | (exact Bool.false_ne_true (h.symm.trans (by assumption))))))))
                  refine W.loop (X := Nat × Nat × List Nat) (fun q => [(4, .bool (decide ((x.toNat : Int) = 45))), (12, .slice (some ⟨b, 0, none⟩) ds.length cap), (13, .int .i64 (m : Nat)), (14, .int .u8 (q.2.1 : Nat)), (15, .int .i64 ((ds.length : Int) - 1 - (q.1 : Nat))), (89, .int .i64 (r : Nat))]) (fun q => [⟨b, true, .cells (digC (es.take (es.length - q.1) ++ q.2.2) z) 5 (cap, cap + 1)⟩])
                    (fun q => q.1 ≤ es.length ∧ dbl (es.drop (es.length - q.1)) = (q.2.1, q.2.2)) (fun q => es.length - q.1) (0, 0, []) ⟨by omega, by simp [dbl]⟩ (by show SubL [(4, _), (12, _), (13, _), (14, Value.int .u8 0), (15, Value.int .i64 ((ds.length : Int) - 1 - 0)), (89, _)] _; rw [Int.sub_zero]; exact (by repeat (first | exact SubL.nil | refine SubL.cons rfl ?_))) (by simp only [Nat.sub_zero, List.take_length, List.append_nil]; exact (by repeat (first | exact SubH.nil | apply SubH.keep | apply SubH.drop | exact List.Sublist.refl _))) ?_
                  rintro ⟨i, c, res⟩ ⟨hi, hdb⟩
                  simp only at hi hdb ⊢
                  by_cases hil : i < es.length
                  · obtain ⟨k, hk⟩ : ∃ k, k = es.length - 1 - i := ⟨_, rfl⟩
                    have hk1 : es.length - i = k + 1 := by omega
                    have hkl : k < es.length := by omega
                    rw [hk1] at hdb ⊢
                    have hd9 : es[k] < 10 := hed _ (List.getElem_mem hkl)
                    have hc1 : c ≤ 1 := by
                      have := dbl_carry (es.drop (k + 1)) (fun d h => hed d (List.mem_of_mem_drop h))
                      rw [hdb] at this
                      exact this
                    have hnext : dbl (es.drop k) = ((2 * es[k] + c) / 10, (2 * es[k] + c) % 10 :: res) := by
                      rw [List.drop_eq_getElem_cons hkl]
                      simp [dbl, hdb]
                    have hsplit : es.take (k + 1) = es.take k ++ [es[k]] := List.take_succ_eq_append_getElem hkl
                    have hcur : es.take (k + 1) ++ res = es.take k ++ es[k] :: res := by rw [hsplit, List.append_assoc]; rfl
                    have htk : (es.take k).length = k := by simp; omega
                    have hrl : res.length = es.length - (k + 1) := by
                      have := dbl_len (es.drop (k + 1))
                      rw [hdb] at this
                      simpa using this
                    have hcell : ∀ off, off = k → (digC (es.take (k + 1) ++ res) z)[off]? = some (.int .u8 ((48 + es[k] : Nat) : Int)) := fun off ho => by
                      subst ho
                      rw [digC_get _ _ _ (by simp; omega)]
                      simp [hcur, htk]
                    have hset : ∀ (off : Nat) (y : Int) (v : Nat), off = k → y = ((48 + v : Nat) : Int) → SubH [⟨b, true, .cells (digC (es.take k ++ v :: res) z) 5 (cap, cap + 1)⟩] [⟨b, true, .cells ((digC (es.take (k + 1) ++ res) z).setIfInBounds off (.int .u8 y)) 5 (cap, cap + 1)⟩] := fun off y v ho hy => by
                      subst ho
                      subst hy
                      have := digC_set (es.take off) res es[off] v z
                      rw [htk] at this
                      rw [hcur, this]
                      exact List.Sublist.refl _
                    repeat' (first | (apply gL; first | (apply Wl.ev rfl rfl; (focus (first | exact ev_move rfl | (apply gLoa; first | exact ev_loadAt (agT rfl) rfl (by repeat (first | exact List.Mem.head _ | apply List.Mem.tail)) (hcell _ (by omega))) | exact ev_assign rfl | (apply gBin; first | exact (ev_quo rfl rfl (by decide)).to (quo10_ok _ _ hd9 hc1) | exact (ev_rem rfl rfl (by decide)).to (rem10_ok _ _ hd9 hc1) | exact ev_gei rfl rfl | exact ev_sub64 rfl rfl (by omega) | exact ev_addK rfl rfl (by first | exact wrap64_in (by omega) | exact IntWalk.u8_in _ (by omega) | exact IntWalk.i32_in _ (by omega)) | exact ev_subK rfl rfl (by first | exact wrap64_in (by omega) | exact IntWalk.u8_in _ (by omega) | exact IntWalk.i32_in _ (by omega)) | exact ev_mulK rfl rfl (by first | exact wrap64_in (by omega) | exact IntWalk.u8_in _ (by omega) | exact IntWalk.i32_in _ (by omega))) | (apply gIxA; first | exact ev_indexAddr (slT rfl) (szT rfl) rfl rfl (by omega))))) | (refine wl_storeCell rfl rfl rfl rfl (szT rfl) (by repeat (first | exact Upd.here | apply Upd.there)) (by rw [digC_size]; simp; omega) (by simp; omega) ?_) | apply Wl.nil) | ((show W _ _ _ _ _ _ _ _ _); first | apply W.seq | apply W.region | apply W.block | apply W.blk | apply W.skip | (refine W.cond rfl ?_ ?_ <;> (intro h; try (exfalso; first | contradiction | omega | exact h rfl | exact h ⟨rfl, rfl⟩ | (exact Bool.false_ne_true ((by assumption : _ = false).symm.trans h)) | (exact Bool.false_ne_true (h.symm.trans (by assumption))))))))
                    refine W.again (i + 1, (2 * es[k] + c) / 10, ((2 * es[k] + c) % 10) :: res) ?_ ?_ (by rw [show ((ds.length : Int) - 1 - ((i + 1 : Nat) : Int)) = (ds.length : Int) - 1 - i - 1 by omega]; exact (by repeat (first | exact SubL.nil | refine SubL.cons rfl ?_))) ?_
                    · refine ⟨by simp only; omega, ?_⟩
                      simp only
                      rw [show es.length - (i + 1) = k by omega, hnext]
                    · simp only; omega
                    · simp only
                      rw [show es.length - (i + 1) = k by omega]
                      exact hset _ _ _ (by omega) (by omega)
                  · have hii : i = es.length := by omega
                    subst hii
                    rw [Nat.sub_self] at hdb ⊢
                    rw [List.drop_zero] at hdb
                    simp only [List.take_zero, List.nil_append]
                    have hc1 : c ≤ 1 := by
                      have := dbl_carry es hed
                      rw [hdb] at this
                      exact this
                    repeat' (first | (apply gL; first | (apply Wl.ev rfl rfl; (focus (first | exact ev_move rfl | exact ev_assign rfl | (apply gBin; first | exact ev_gei rfl rfl | exact ev_add64 rfl rfl (by omega) | exact ev_mul64 rfl rfl (by omega)) | (apply gCon; first | exact ev_convK (dT rfl) (intT rfl) rfl (by first | exact wrap64_in (by omega) | exact IntWalk.u8_in _ (by omega) | exact IntWalk.i32_in _ (by omega)))))) | apply Wl.nil) | ((show W _ _ _ _ _ _ _ _ _); first | apply W.seq | (refine W.again (r + 1, 2 * m + c, res) ?_ ?_ (by repeat (first | exact SubL.nil | refine SubL.cons rfl ?_)) (by repeat (first | exact SubH.nil | apply SubH.keep | apply SubH.drop | exact List.Sublist.refl _))) | apply W.region | apply W.blk | (refine W.exit rfl ?_) | (refine W.cond rfl ?_ ?_ <;> (intro h; try (exfalso; first | contradiction | omega | exact h rfl | exact h ⟨rfl, rfl⟩ | (exact Bool.false_ne_true ((by assumption : _ = false).symm.trans h)) | (exact Bool.false_ne_true (h.symm.trans (by assumption))))))))
                    · refine ⟨by simp only; omega, ?_, ?_, ?_, ?_⟩
                      · simp only
                        rw [Nat.pow_succ]; omega
                      · have := dbl_len es
                        rw [hdb] at this
                        simp only at this ⊢
                        omega
                      · have := dbl_digit es
                        rw [hdb] at this
                        exact this
                      · rw [← heq, show 17 - r = (17 - (r + 1)) + 1 by omega]
                        simp only [binS_succ, hdb]
                    · simp only; omega
                · have h17 : r = 17 := by omega
                  subst h17
                  have hBm : m = binS 17 N ds := by rw [← heq]; exact (binS_zero _ _).symm
                  repeat' (first | (apply gL; first | (apply Wl.ev rfl rfl; (focus (first | exact ev_move rfl | exact ev_assign rfl | (apply gBin; first | exact (ev_quo rfl rfl (by decide)).to (half_ok _ (by omega)) | exact ev_lti rfl rfl | exact ev_add64 rfl rfl (by omega)) | (apply gUn; first | exact ev_neg64 rfl (by omega))))) | ((show Wl _ _ _ _ _ _ _ (⟨_, .call ⟨.value (.func 69), _, _⟩, _, _, _, _⟩ :: _) _ _); refine wl_call0 rfl rfl has69 rfl (fun w _ => raw02_ok _ w) ?_) | apply Wl.nil) | ((show W _ _ _ _ _ _ _ _ _); first | apply W.seq | apply W.region | (refine W.exit rfl ?_) | (refine W.condF rfl ?_) | (refine W.cond rfl ?_ ?_ <;> (intro h; try (exfalso; first | contradiction | omega | exact h rfl | exact h ⟨rfl, rfl⟩ | (exact Bool.false_ne_true ((by assumption : _ = false).symm.trans h)) | (exact Bool.false_ne_true (h.symm.trans (by assumption)))))) | (refine W.ret2 rfl rfl rfl ?_; intro w hs)))
                  exact ret_eq hs (by rw [hres, ← hs0]; simp only [after02]; rw [if_neg (by omega), hnum, ← hBm]; rfl)
      · have hxn : ¬((x.toNat : Int) = 45) := fun h => hx (UInt8.toNat_inj.1 (by show _ = 45; omega))
        repeat' (first | (apply gL; first | (apply Wl.ev rfl rfl; (focus (first | exact ev_move rfl | exact ev_assign rfl | exact ev_pickT rfl rfl | (apply gBin; first | exact ev_eqi rfl rfl | exact ev_nes rfl rfl | exact ev_gti rfl rfl) | (apply gCal; first | exact ev_len_string (strT rfl) rfl) | (apply gIdx; first | exact (ev_index_string (strT rfl) rfl rfl (by simp)).to (show Value.int .u8 _ = .int .u8 x.toNat from rfl))))) | apply Wl.nil) | (apply gQ; first | (apply Wq.ev rfl rfl; (focus (first | exact ev_move rfl | exact ev_assign rfl | exact ev_pickT rfl rfl | (apply gBin; first | exact ev_eqi rfl rfl | exact ev_nes rfl rfl | exact ev_gti rfl rfl) | (apply gCal; first | exact ev_len_string (strT rfl) rfl) | (apply gIdx; first | exact (ev_index_string (strT rfl) rfl rfl (by simp)).to (show Value.int .u8 _ = .int .u8 x.toNat from rfl)))))) | ((show W _ _ _ _ _ _ _ _ _); first | apply W.seq | apply W.region | apply W.block | apply W.skip | (refine W.cond rfl ?_ ?_ <;> (intro h; try (exfalso; first | contradiction | omega | exact h rfl | exact h ⟨rfl, rfl⟩ | (exact Bool.false_ne_true ((by assumption : _ = false).symm.trans h)) | (exact Bool.false_ne_true (h.symm.trans (by assumption))))))))
        have htl : (x :: l).length ≤ 40 := by simp at hl ⊢; omega
        have hres : parse02S (x :: l) = after02 false (x :: l) (scanS (x :: l) 0 (-1) 0) := by
          unfold parse02S
          rw [if_neg (by simp at hl ⊢; omega)]
          simp [hx]
        obtain ⟨R, hR⟩ : ∃ R, parse02S (x :: l) = R := ⟨_, rfl⟩
        rw [hR] at hres ⊢
        obtain ⟨t, ht⟩ : ∃ t, x :: l = t := ⟨_, rfl⟩
        rw [ht] at htl hres
        obtain ⟨sc, hsc⟩ : ∃ sc, scanS t 0 (-1) 0 = sc := ⟨_, rfl⟩
        rw [hsc] at hres
        refine W.loop (X := Nat × Int × Nat) (fun q => [(0, st t), (4, .bool (decide ((x.toNat : Int) = 45))), (5, .int .i64 q.2.1), (6, .int .i64 (q.2.2 : Nat)), (31, .int .i64 (t.length : Nat)), (32, .int .i64 (q.1 : Nat))]) (fun _ => [])
          (fun q => q.1 ≤ t.length ∧ q.2.2 ≤ q.1 ∧ -1 ≤ q.2.1 ∧ q.2.1 < q.1 ∧ scanS (t.drop q.1) q.1 q.2.1 q.2.2 = sc) (fun q => t.length - q.1) (0, -1, 0) ⟨Nat.zero_le _, Nat.le_refl _, by simp, by simp, hsc⟩ (by rw [← ht]; exact (by repeat (first | exact SubL.nil | refine SubL.cons rfl ?_))) (by repeat (first | exact SubH.nil | apply SubH.keep | apply SubH.drop | exact List.Sublist.refl _)) ?_
        rintro ⟨i, p, c⟩ ⟨hi, hci, hp1, hp, hs0⟩
        simp only at hi hci hp1 hp hs0 ⊢
        by_cases hlt : i < t.length
        · have hd : t.drop i = t.getD i 0 :: t.drop (i + 1) := by rw [List.drop_eq_getElem_cons hlt]; simp [List.getD, hlt]
          rw [hd] at hs0
          simp only [scanS] at hs0
          by_cases hb : isD (t.getD i 0)
          · rw [if_pos hb] at hs0
            unfold isD at hb
            repeat' (first | (apply gL; first | (apply Wl.ev rfl rfl; (focus (first | exact ev_move rfl | exact ev_assign rfl | exact ev_pickT rfl rfl | (apply gBin; first | exact ev_lti rfl rfl | exact ev_lei rfl rfl | exact ev_gei rfl rfl | exact ev_add64 rfl rfl (by omega)) | (apply gIdx; first | exact (ev_index_string (strT rfl) rfl rfl (by omega)).to (show Value.int .u8 _ = .int .u8 (t.getD i 0).toNat from rfl))))) | apply Wl.nil | ((fail_if_success (apply Wl.chk rfl)); refine Wl.split rfl rfl ?_ ?_ <;> (intro h; try (exfalso; first | contradiction | omega | exact h rfl | exact h ⟨rfl, rfl⟩ | (exact Bool.false_ne_true ((by assumption : _ = false).symm.trans h)) | (exact Bool.false_ne_true (h.symm.trans (by assumption))))))) | (apply gQ; first | (apply Wq.ev rfl rfl; (focus (first | exact ev_move rfl | exact ev_assign rfl | exact ev_pickT rfl rfl | (apply gBin; first | exact ev_lti rfl rfl | exact ev_lei rfl rfl | exact ev_gei rfl rfl | exact ev_add64 rfl rfl (by omega)) | (apply gIdx; first | exact (ev_index_string (strT rfl) rfl rfl (by omega)).to (show Value.int .u8 _ = .int .u8 (t.getD i 0).toNat from rfl)))))) | ((show W _ _ _ _ _ _ _ _ _); first | apply W.seq | (refine W.again (i + 1, p, c + 1) ?_ ?_ (by repeat (first | exact SubL.nil | refine SubL.cons rfl ?_)) (by repeat (first | exact SubH.nil | apply SubH.keep | apply SubH.drop | exact List.Sublist.refl _))) | apply W.region | apply W.block | apply W.blk | apply W.skip | (refine W.cond rfl ?_ ?_ <;> (intro h; try (exfalso; first | contradiction | omega | exact h rfl | exact h ⟨rfl, rfl⟩ | (exact Bool.false_ne_true ((by assumption : _ = false).symm.trans h)) | (exact Bool.false_ne_true (h.symm.trans (by assumption))))))))
            · exact ⟨by simp only; omega, by simp only; omega, hp1, by simp only; omega, hs0⟩
            · simp only; omega
          · rw [if_neg hb] at hs0
            have hbn : ¬(48 ≤ (t.getD i 0).toNat ∧ (t.getD i 0).toNat ≤ 57) := hb
            by_cases hq : t.getD i 0 = 46 ∧ p < 0
            · rw [if_pos hq] at hs0
              have hq1 : ((t.getD i 0).toNat : Int) = 46 := by rw [hq.1]; rfl
              have hq2 := hq.2
              repeat' (first | (apply gL; first | (apply Wl.ev rfl rfl; (focus (first | exact ev_move rfl | exact ev_assign rfl | (apply gPic; first | exact ev_pickT rfl rfl | exact ev_pickF rfl rfl) | (apply gBin; first | exact ev_eqi rfl rfl | exact ev_lti rfl rfl | exact ev_gei rfl rfl | exact ev_add64 rfl rfl (by omega)) | (apply gIdx; first | exact (ev_index_string (strT rfl) rfl rfl (by omega)).to (show Value.int .u8 _ = .int .u8 (t.getD i 0).toNat from rfl))))) | apply Wl.nil | (refine Wl.skip rfl rfl ?_) | ((fail_if_success (apply Wl.chk rfl)); refine Wl.split rfl rfl ?_ ?_ <;> (intro h; try (exfalso; first | contradiction | omega | exact h rfl | exact h ⟨rfl, rfl⟩ | (exact Bool.false_ne_true ((by assumption : _ = false).symm.trans h)) | (exact Bool.false_ne_true (h.symm.trans (by assumption))))))) | (apply gQ; first | (apply Wq.ev rfl rfl; (focus (first | exact ev_move rfl | exact ev_assign rfl | (apply gPic; first | exact ev_pickT rfl rfl | exact ev_pickF rfl rfl) | (apply gBin; first | exact ev_eqi rfl rfl | exact ev_lti rfl rfl | exact ev_gei rfl rfl | exact ev_add64 rfl rfl (by omega)) | (apply gIdx; first | exact (ev_index_string (strT rfl) rfl rfl (by omega)).to (show Value.int .u8 _ = .int .u8 (t.getD i 0).toNat from rfl)))))) | ((show W _ _ _ _ _ _ _ _ _); first | apply W.seq | (refine W.again (i + 1, (i : Int), c) ?_ ?_ (by repeat (first | exact SubL.nil | refine SubL.cons rfl ?_)) (by repeat (first | exact SubH.nil | apply SubH.keep | apply SubH.drop | exact List.Sublist.refl _))) | apply W.region | apply W.block | apply W.blk | apply W.skip | (refine W.condF rfl ?_) | (refine W.cond rfl ?_ ?_ <;> (intro h; try (exfalso; first | contradiction | omega | exact h rfl | exact h ⟨rfl, rfl⟩ | (exact Bool.false_ne_true ((by assumption : _ = false).symm.trans h)) | (exact Bool.false_ne_true (h.symm.trans (by assumption))))))))
              · exact ⟨by simp only; omega, by simp only; omega, by simp only; omega, by simp only; omega, hs0⟩
              · simp only; omega
            · rw [if_neg hq] at hs0
              have hqn : ¬(((t.getD i 0).toNat : Int) = 46 ∧ p < 0) := fun h => hq ⟨UInt8.toNat_inj.1 (by have := h.1; show _ = 46; omega), h.2⟩
              repeat' (first | (apply gL; first | (apply Wl.ev rfl rfl; (focus (first | exact ev_move rfl | exact ev_assign rfl | (apply gPic; first | exact ev_pickT rfl rfl | exact ev_pickF rfl rfl) | (apply gBin; first | exact ev_eqi rfl rfl | exact ev_lti rfl rfl | exact ev_lei rfl rfl | exact ev_gei rfl rfl) | (apply gIdx; first | exact (ev_index_string (strT rfl) rfl rfl (by omega)).to (show Value.int .u8 _ = .int .u8 (t.getD i 0).toNat from rfl))))) | apply Wl.nil | (refine Wl.skip rfl rfl ?_) | ((fail_if_success (apply Wl.chk rfl)); refine Wl.split rfl rfl ?_ ?_ <;> (intro h; try (exfalso; first | contradiction | omega | exact h rfl | exact h ⟨rfl, rfl⟩ | (exact Bool.false_ne_true ((by assumption : _ = false).symm.trans h)) | (exact Bool.false_ne_true (h.symm.trans (by assumption))))))) | (apply gQ; first | (apply Wq.ev rfl rfl; (focus (first | exact ev_move rfl | exact ev_assign rfl | (apply gPic; first | exact ev_pickT rfl rfl | exact ev_pickF rfl rfl) | (apply gBin; first | exact ev_eqi rfl rfl | exact ev_lti rfl rfl | exact ev_lei rfl rfl | exact ev_gei rfl rfl) | (apply gIdx; first | exact (ev_index_string (strT rfl) rfl rfl (by omega)).to (show Value.int .u8 _ = .int .u8 (t.getD i 0).toNat from rfl)))))) | ((show W _ _ _ _ _ _ _ _ _); first | apply W.seq | apply W.region | apply W.block | apply W.skip | (refine W.condF rfl ?_) | (refine W.cond rfl ?_ ?_ <;> (intro h; try (exfalso; first | contradiction | omega | exact h rfl | exact h ⟨rfl, rfl⟩ | (exact Bool.false_ne_true ((by assumption : _ = false).symm.trans h)) | (exact Bool.false_ne_true (h.symm.trans (by assumption)))))) | (refine W.ret2 rfl rfl rfl ?_; intro w hs)))
              all_goals exact ret_eq hs (by rw [hres, ← hs0]; rfl)
        · have hie : i = t.length := by omega
          subst hie
          rw [List.drop_length] at hs0
          simp only [scanS] at hs0
          have hsome := scan_some (hsc.trans hs0.symm)
          rcases hsome with hsome | hsome
          · obtain ⟨rfl, hall, hcl⟩ := hsome
            have hwh : wh02 (-1) t = t := rfl
            have hpa : pa02 (-1) t = [] := rfl
            have hwd : ∀ b ∈ t, isD b := hall
            have hpd : ∀ b ∈ ([] : List UInt8), isD b := by simp
            have hwl : (t).length ≤ 40 := by first | omega | (simp; omega)
            have hpl : (([] : List UInt8)).length ≤ 40 := by first | (simp; done) | (simp; omega)
            have hnum : num02 false (-1) t = rawS (if false = true then -(((binS 17 (wholeS 1048576 (t)) (digs ([])) + 1) / 2 : Nat) : Int) else ((binS 17 (wholeS 1048576 (t)) (digs ([])) + 1) / 2 : Nat)) := by
              unfold num02
              rw [hwh, hpa]
            repeat' (first | (apply gL; first | (apply Wl.ev rfl rfl; (focus (first | exact ev_move rfl | exact ev_assign rfl | (apply gBin; first | exact ev_eqi rfl rfl | exact ev_lti rfl rfl | exact ev_gei rfl rfl) | (apply gCal; first | exact ev_len_string (strT rfl) rfl)))) | apply Wl.nil) | (apply gQ; first | (apply Wq.ev rfl rfl; (focus (first | exact ev_move rfl | exact ev_assign rfl | (apply gBin; first | exact ev_eqi rfl rfl | exact ev_lti rfl rfl | exact ev_gei rfl rfl) | (apply gCal; first | exact ev_len_string (strT rfl) rfl))))) | ((show W _ _ _ _ _ _ _ _ _); first | apply W.seq | apply W.region | apply W.block | apply W.skip | (refine W.exit rfl ?_) | (refine W.condF rfl ?_) | (refine W.cond rfl ?_ ?_ <;> (intro h; try (exfalso; first | contradiction | omega | exact h rfl | exact h ⟨rfl, rfl⟩ | (exact Bool.false_ne_true ((by assumption : _ = false).symm.trans h)) | (exact Bool.false_ne_true (h.symm.trans (by assumption)))))) | (refine W.ret2 rfl rfl rfl ?_; intro w hs)))
            try (any_goals exact ret_eq hs (by rw [hres, ← hs0]; simp only [after02]; rw [if_pos (by omega)]))
            · refine W.loop (X := Nat) (fun i => [(4, .bool (decide ((x.toNat : Int) = 45))), (8, st (t)), (9, st ([])), (10, .int .i64 ((wholeS 1048576 ((t).take i) : Nat) : Int)), (72, .int .i64 ((t).length : Nat)), (73, .int .i64 (i : Nat))]) (fun _ => []) (fun i => i ≤ (t).length) (fun i => (t).length - i) 0 (Nat.zero_le _) (by repeat (first | exact SubL.nil | refine SubL.cons rfl ?_)) (by repeat (first | exact SubH.nil | apply SubH.keep | apply SubH.drop | exact List.Sublist.refl _)) ?_
              rename_i hcn
              intro i hi
              have hle := wholeS_le 1048576 ((t).take i)
              by_cases hlt : i < (t).length
              · have hb : isD ((t).getD i 0) := hwd _ (getD_mem hlt)
                unfold isD at hb
                have e1 : (t).take (i + 1) = (t).take i ++ [(t).getD i 0] := take_snoc hlt
                have e2 : ((wholeS 1048576 ((t).take (i + 1)) : Nat) : Int) = min (10 * (wholeS 1048576 ((t).take i) : Int) + ((((t).getD i 0).toNat : Int) - 48)) 1048576 := by
                  rw [e1, wholeS_snoc]; omega
                repeat' (first | (apply gL; first | (apply Wl.ev rfl rfl; (focus (first | exact ev_move rfl | exact ev_assign rfl | (apply gBin; first | exact ev_lti rfl rfl | exact ev_add64 rfl rfl (by omega) | exact ev_mul64 rfl rfl (by omega) | exact ev_subK rfl rfl (by first | exact wrap64_in (by omega) | exact IntWalk.u8_in _ (by omega) | exact IntWalk.i32_in _ (by omega))) | exact ev_min rfl rfl | (apply gIdx; first | exact (ev_index_string (strT rfl) rfl rfl (by omega)).to (show Value.int .u8 _ = .int .u8 ((t).getD i 0).toNat from rfl)) | (apply gCon; first | exact ev_convK (dT rfl) (intT rfl) rfl (by first | exact wrap64_in (by omega) | exact IntWalk.u8_in _ (by omega) | exact IntWalk.i32_in _ (by omega)))))) | apply Wl.nil) | ((show W _ _ _ _ _ _ _ _ _); first | apply W.seq | (refine W.again (i + 1) ?_ ?_ (by rw [e2]; exact (by repeat (first | exact SubL.nil | refine SubL.cons rfl ?_))) (by repeat (first | exact SubH.nil | apply SubH.keep | apply SubH.drop | exact List.Sublist.refl _))) | apply W.region | apply W.block | apply W.blk | apply W.skip | (refine W.cond rfl ?_ ?_ <;> (intro h; try (exfalso; first | contradiction | omega | exact h rfl | exact h ⟨rfl, rfl⟩ | (exact Bool.false_ne_true ((by assumption : _ = false).symm.trans h)) | (exact Bool.false_ne_true (h.symm.trans (by assumption))))))))
                · omega
                · omega
              · have hpe : (t).take i = t := List.take_of_length_le (by omega)
                rw [hpe] at hle ⊢
                obtain ⟨N, hN⟩ : ∃ N, wholeS 1048576 (t) = N := ⟨_, rfl⟩
                rw [hN] at hnum hle ⊢
                obtain ⟨ds, hds⟩ : ∃ ds, digs ([]) = ds := ⟨_, rfl⟩
                have hback := digs_back hpd
                have hd := digs_lt hpd
                have hdl := digs_len ([])
                rw [hds] at hnum hback hd hdl
                have hdsl : ds.length ≤ 40 := by rw [hdl]; exact hpl
                rw [← hback]
                repeat' (first | (apply gL; first | (apply Wl.ev rfl rfl; (focus (first | exact ev_move rfl | exact ev_assign rfl | exact ev_lti rfl rfl))) | apply Wl.nil | (refine wl_strBytes rfl rfl (strT rfl) (slT rfl) (intT rfl) rfl ?_; intro b cap hcap)) | ((show W _ _ _ _ _ _ _ _ _); first | apply W.seq | apply W.region | apply W.block | (refine W.exit rfl ?_) | (refine W.cond rfl ?_ ?_ <;> (intro h; try (exfalso; first | contradiction | omega | exact h rfl | exact h ⟨rfl, rfl⟩ | (exact Bool.false_ne_true ((by assumption : _ = false).symm.trans h)) | (exact Bool.false_ne_true (h.symm.trans (by assumption))))))))
                rw [digB_len] at hcap ⊢
                rw [digB_cells ds hd]
                obtain ⟨z, hz⟩ : ∃ z, cap - ds.length = z := ⟨_, rfl⟩
                rw [hz]
                refine W.loop (X := Nat × Nat × List Nat) (fun q => [(4, .bool (decide ((x.toNat : Int) = 45))), (12, .slice (some ⟨b, 0, none⟩) ds.length cap), (13, .int .i64 (q.2.1 : Nat)), (89, .int .i64 (q.1 : Nat))]) (fun q => [⟨b, true, .cells (digC q.2.2 z) 5 (cap, cap + 1)⟩])
                  (fun q => q.1 ≤ 17 ∧ q.2.1 < 1048577 * 2 ^ q.1 ∧ q.2.2.length = ds.length ∧ (∀ d ∈ q.2.2, d < 10) ∧ binS (17 - q.1) q.2.1 q.2.2 = binS 17 N ds) (fun q => 17 - q.1) (0, N, ds) ⟨by omega, by simp; omega, rfl, hd, rfl⟩ (by repeat (first | exact SubL.nil | refine SubL.cons rfl ?_)) (by repeat (first | exact SubH.nil | apply SubH.keep | apply SubH.drop | exact List.Sublist.refl _)) ?_
                rintro ⟨r, m, es⟩ ⟨hr, hm, hel, hed, heq⟩
                simp only at hr hm hel hed heq ⊢
                have hm2 : m < 1048577 * 131072 := Nat.lt_of_lt_of_le hm (Nat.mul_le_mul_left _ (Nat.pow_le_pow_right (by omega) hr))
                by_cases hlt : r < 17
                · repeat' (first | (apply gL; first | (apply Wl.ev rfl rfl; (focus (first | exact ev_move rfl | exact ev_assign rfl | (apply gBin; first | exact ev_lti rfl rfl | exact ev_sub64 rfl rfl (by omega)) | (apply gCal; first | exact ev_len_slice (slT rfl) rfl)))) | apply Wl.nil) | ((show W _ _ _ _ _ _ _ _ _); first | apply W.seq | apply W.region | apply W.block | apply W.skip | (refine W.cond rfl ?_ ?_ <;> (intro h; try (exfalso; first | contradiction | omega | exact h rfl | exact h ⟨rfl, rfl⟩ | (exact Bool.false_ne_true ((by assumption : _ = false).symm.trans h)) | (exact Bool.false_ne_true (h.symm.trans (by assumption))))))))
                  refine W.loop (X := Nat × Nat × List Nat) (fun q => [(4, .bool (decide ((x.toNat : Int) = 45))), (12, .slice (some ⟨b, 0, none⟩) ds.length cap), (13, .int .i64 (m : Nat)), (14, .int .u8 (q.2.1 : Nat)), (15, .int .i64 ((ds.length : Int) - 1 - (q.1 : Nat))), (89, .int .i64 (r : Nat))]) (fun q => [⟨b, true, .cells (digC (es.take (es.length - q.1) ++ q.2.2) z) 5 (cap, cap + 1)⟩])
                    (fun q => q.1 ≤ es.length ∧ dbl (es.drop (es.length - q.1)) = (q.2.1, q.2.2)) (fun q => es.length - q.1) (0, 0, []) ⟨by omega, by simp [dbl]⟩ (by show SubL [(4, _), (12, _), (13, _), (14, Value.int .u8 0), (15, Value.int .i64 ((ds.length : Int) - 1 - 0)), (89, _)] _; rw [Int.sub_zero]; exact (by repeat (first | exact SubL.nil | refine SubL.cons rfl ?_))) (by simp only [Nat.sub_zero, List.take_length, List.append_nil]; exact (by repeat (first | exact SubH.nil | apply SubH.keep | apply SubH.drop | exact List.Sublist.refl _))) ?_
                  rintro ⟨i, c, res⟩ ⟨hi, hdb⟩
                  simp only at hi hdb ⊢
                  by_cases hil : i < es.length
                  · exact absurd hil (by have h0 : ds.length = 0 := hdl; omega)
                  · have hii : i = es.length := by omega
                    subst hii
                    rw [Nat.sub_self] at hdb ⊢
                    rw [List.drop_zero] at hdb
                    simp only [List.take_zero, List.nil_append]
                    have hc1 : c ≤ 1 := by
                      have := dbl_carry es hed
                      rw [hdb] at this
                      exact this
                    repeat' (first | (apply gL; first | (apply Wl.ev rfl rfl; (focus (first | exact ev_move rfl | exact ev_assign rfl | (apply gBin; first | exact ev_gei rfl rfl | exact ev_add64 rfl rfl (by omega) | exact ev_mul64 rfl rfl (by omega)) | (apply gCon; first | exact ev_convK (dT rfl) (intT rfl) rfl (by first | exact wrap64_in (by omega) | exact IntWalk.u8_in _ (by omega) | exact IntWalk.i32_in _ (by omega)))))) | apply Wl.nil) | ((show W _ _ _ _ _ _ _ _ _); first | apply W.seq | (refine W.again (r + 1, 2 * m + c, res) ?_ ?_ (by repeat (first | exact SubL.nil | refine SubL.cons rfl ?_)) (by repeat (first | exact SubH.nil | apply SubH.keep | apply SubH.drop | exact List.Sublist.refl _))) | apply W.region | apply W.blk | (refine W.exit rfl ?_) | (refine W.cond rfl ?_ ?_ <;> (intro h; try (exfalso; first | contradiction | omega | exact h rfl | exact h ⟨rfl, rfl⟩ | (exact Bool.false_ne_true ((by assumption : _ = false).symm.trans h)) | (exact Bool.false_ne_true (h.symm.trans (by assumption))))))))
                    · refine ⟨by simp only; omega, ?_, ?_, ?_, ?_⟩
                      · simp only
                        rw [Nat.pow_succ]; omega
                      · have := dbl_len es
                        rw [hdb] at this
                        simp only at this ⊢
                        omega
                      · have := dbl_digit es
                        rw [hdb] at this
                        exact this
                      · rw [← heq, show 17 - r = (17 - (r + 1)) + 1 by omega]
                        simp only [binS_succ, hdb]
                    · simp only; omega
                · have h17 : r = 17 := by omega
                  subst h17
                  have hBm : m = binS 17 N ds := by rw [← heq]; exact (binS_zero _ _).symm
                  repeat' (first | (apply gL; first | (apply Wl.ev rfl rfl; (focus (first | exact ev_move rfl | exact ev_assign rfl | (apply gBin; first | exact (ev_quo rfl rfl (by decide)).to (half_ok _ (by omega)) | exact ev_lti rfl rfl | exact ev_add64 rfl rfl (by omega))))) | ((show Wl _ _ _ _ _ _ _ (⟨_, .call ⟨.value (.func 69), _, _⟩, _, _, _, _⟩ :: _) _ _); refine wl_call0 rfl rfl has69 rfl (fun w _ => raw02_ok _ w) ?_) | apply Wl.nil) | ((show W _ _ _ _ _ _ _ _ _); first | apply W.seq | apply W.region | apply W.skip | (refine W.exit rfl ?_) | (refine W.condF rfl ?_) | (refine W.cond rfl ?_ ?_ <;> (intro h; try (exfalso; first | contradiction | omega | exact h rfl | exact h ⟨rfl, rfl⟩ | (exact Bool.false_ne_true ((by assumption : _ = false).symm.trans h)) | (exact Bool.false_ne_true (h.symm.trans (by assumption)))))) | (refine W.ret2 rfl rfl rfl ?_; intro w hs)))
                  exact ret_eq hs (by rw [hres, ← hs0]; simp only [after02]; rw [if_neg (by omega), hnum, ← hBm]; rfl)
          · obtain ⟨_, k0, hk0, hpk, h46, hwd, hpd, hcl⟩ := hsome
            rw [Nat.zero_add] at hpk
            subst hpk
            have hwh : wh02 (k0 : Int) t = t.take k0 := by simp [wh02]
            have hpa : pa02 (k0 : Int) t = t.drop (k0 + 1) := by simp [pa02]
            have hwl : (t.take k0).length ≤ 40 := by first | omega | (simp; omega)
            have hpl : (t.drop (k0 + 1)).length ≤ 40 := by first | (simp; done) | (simp; omega)
            have hnum : num02 false (k0 : Int) t = rawS (if false = true then -(((binS 17 (wholeS 1048576 (t.take k0)) (digs (t.drop (k0 + 1))) + 1) / 2 : Nat) : Int) else ((binS 17 (wholeS 1048576 (t.take k0)) (digs (t.drop (k0 + 1))) + 1) / 2 : Nat)) := by
              unfold num02
              rw [hwh, hpa]
            repeat' (first | (apply gL; first | (apply Wl.ev rfl rfl; (focus (first | exact ev_move rfl | exact ev_assign rfl | (apply gBin; first | exact ev_eqi rfl rfl | exact ev_lti rfl rfl | exact ev_gei rfl rfl | exact ev_add64 rfl rfl (by omega)) | (apply gCal; first | exact ev_len_string (strT rfl) rfl) | (apply gSli; first | exact ev_slice_string_hi (strT rfl) rfl rfl (by omega) | exact ev_slice_string_lo (strT rfl) rfl rfl (by omega))))) | apply Wl.nil) | (apply gQ; first | (apply Wq.ev rfl rfl; (focus (first | exact ev_move rfl | exact ev_assign rfl | (apply gBin; first | exact ev_eqi rfl rfl | exact ev_lti rfl rfl | exact ev_gei rfl rfl | exact ev_add64 rfl rfl (by omega)) | (apply gCal; first | exact ev_len_string (strT rfl) rfl) | (apply gSli; first | exact ev_slice_string_hi (strT rfl) rfl rfl (by omega) | exact ev_slice_string_lo (strT rfl) rfl rfl (by omega))))) | apply Wq.nil) | ((show W _ _ _ _ _ _ _ _ _); first | apply W.seq | (refine W.regionQ mixed (by kernel_rfl) ?_) | apply W.region | apply W.block | apply W.skip | (refine W.exit rfl ?_) | (refine W.condT rfl ?_) | (refine W.cond rfl ?_ ?_ <;> (intro h; try (exfalso; first | contradiction | omega | exact h rfl | exact h ⟨rfl, rfl⟩ | (exact Bool.false_ne_true ((by assumption : _ = false).symm.trans h)) | (exact Bool.false_ne_true (h.symm.trans (by assumption)))))) | (refine W.ret2 rfl rfl rfl ?_; intro w hs)))
            try (any_goals exact ret_eq hs (by rw [hres, ← hs0]; simp only [after02]; rw [if_pos (by omega)]))
            · refine W.loop (X := Nat) (fun i => [(4, .bool (decide ((x.toNat : Int) = 45))), (8, st (t.take k0)), (9, st (t.drop (k0 + 1))), (10, .int .i64 ((wholeS 1048576 ((t.take k0).take i) : Nat) : Int)), (72, .int .i64 ((t.take k0).length : Nat)), (73, .int .i64 (i : Nat))]) (fun _ => []) (fun i => i ≤ (t.take k0).length) (fun i => (t.take k0).length - i) 0 (Nat.zero_le _) (by repeat (first | exact SubL.nil | refine SubL.cons rfl ?_)) (by repeat (first | exact SubH.nil | apply SubH.keep | apply SubH.drop | exact List.Sublist.refl _)) ?_
              rename_i hcn
              intro i hi
              have hle := wholeS_le 1048576 ((t.take k0).take i)
              by_cases hlt : i < (t.take k0).length
              · have hb : isD ((t.take k0).getD i 0) := hwd _ (getD_mem hlt)
                unfold isD at hb
                have e1 : (t.take k0).take (i + 1) = (t.take k0).take i ++ [(t.take k0).getD i 0] := take_snoc hlt
                have e2 : ((wholeS 1048576 ((t.take k0).take (i + 1)) : Nat) : Int) = min (10 * (wholeS 1048576 ((t.take k0).take i) : Int) + ((((t.take k0).getD i 0).toNat : Int) - 48)) 1048576 := by
                  rw [e1, wholeS_snoc]; omega
                repeat' (first | (apply gL; first | (apply Wl.ev rfl rfl; (focus (first | exact ev_move rfl | exact ev_assign rfl | (apply gBin; first | exact ev_lti rfl rfl | exact ev_add64 rfl rfl (by omega) | exact ev_mul64 rfl rfl (by omega) | exact ev_subK rfl rfl (by first | exact wrap64_in (by omega) | exact IntWalk.u8_in _ (by omega) | exact IntWalk.i32_in _ (by omega))) | exact ev_min rfl rfl | (apply gIdx; first | exact (ev_index_string (strT rfl) rfl rfl (by omega)).to (show Value.int .u8 _ = .int .u8 ((t.take k0).getD i 0).toNat from rfl)) | (apply gCon; first | exact ev_convK (dT rfl) (intT rfl) rfl (by first | exact wrap64_in (by omega) | exact IntWalk.u8_in _ (by omega) | exact IntWalk.i32_in _ (by omega)))))) | apply Wl.nil) | ((show W _ _ _ _ _ _ _ _ _); first | apply W.seq | (refine W.again (i + 1) ?_ ?_ (by rw [e2]; exact (by repeat (first | exact SubL.nil | refine SubL.cons rfl ?_))) (by repeat (first | exact SubH.nil | apply SubH.keep | apply SubH.drop | exact List.Sublist.refl _))) | apply W.region | apply W.block | apply W.blk | apply W.skip | (refine W.cond rfl ?_ ?_ <;> (intro h; try (exfalso; first | contradiction | omega | exact h rfl | exact h ⟨rfl, rfl⟩ | (exact Bool.false_ne_true ((by assumption : _ = false).symm.trans h)) | (exact Bool.false_ne_true (h.symm.trans (by assumption))))))))
                · omega
                · omega
              · have hpe : (t.take k0).take i = t.take k0 := List.take_of_length_le (by omega)
                rw [hpe] at hle ⊢
                obtain ⟨N, hN⟩ : ∃ N, wholeS 1048576 (t.take k0) = N := ⟨_, rfl⟩
                rw [hN] at hnum hle ⊢
                obtain ⟨ds, hds⟩ : ∃ ds, digs (t.drop (k0 + 1)) = ds := ⟨_, rfl⟩
                have hback := digs_back hpd
                have hd := digs_lt hpd
                have hdl := digs_len (t.drop (k0 + 1))
                rw [hds] at hnum hback hd hdl
                have hdsl : ds.length ≤ 40 := by rw [hdl]; exact hpl
                rw [← hback]
                repeat' (first | (apply gL; first | (apply Wl.ev rfl rfl; (focus (first | exact ev_move rfl | exact ev_assign rfl | exact ev_lti rfl rfl))) | apply Wl.nil | (refine wl_strBytes rfl rfl (strT rfl) (slT rfl) (intT rfl) rfl ?_; intro b cap hcap)) | ((show W _ _ _ _ _ _ _ _ _); first | apply W.seq | apply W.region | apply W.block | (refine W.exit rfl ?_) | (refine W.cond rfl ?_ ?_ <;> (intro h; try (exfalso; first | contradiction | omega | exact h rfl | exact h ⟨rfl, rfl⟩ | (exact Bool.false_ne_true ((by assumption : _ = false).symm.trans h)) | (exact Bool.false_ne_true (h.symm.trans (by assumption))))))))
                rw [digB_len] at hcap ⊢
                rw [digB_cells ds hd]
                obtain ⟨z, hz⟩ : ∃ z, cap - ds.length = z := ⟨_, rfl⟩
                rw [hz]
                refine W.loop (X := Nat × Nat × List Nat) (fun q => [(4, .bool (decide ((x.toNat : Int) = 45))), (12, .slice (some ⟨b, 0, none⟩) ds.length cap), (13, .int .i64 (q.2.1 : Nat)), (89, .int .i64 (q.1 : Nat))]) (fun q => [⟨b, true, .cells (digC q.2.2 z) 5 (cap, cap + 1)⟩])
                  (fun q => q.1 ≤ 17 ∧ q.2.1 < 1048577 * 2 ^ q.1 ∧ q.2.2.length = ds.length ∧ (∀ d ∈ q.2.2, d < 10) ∧ binS (17 - q.1) q.2.1 q.2.2 = binS 17 N ds) (fun q => 17 - q.1) (0, N, ds) ⟨by omega, by simp; omega, rfl, hd, rfl⟩ (by repeat (first | exact SubL.nil | refine SubL.cons rfl ?_)) (by repeat (first | exact SubH.nil | apply SubH.keep | apply SubH.drop | exact List.Sublist.refl _)) ?_
                rintro ⟨r, m, es⟩ ⟨hr, hm, hel, hed, heq⟩
                simp only at hr hm hel hed heq ⊢
                have hm2 : m < 1048577 * 131072 := Nat.lt_of_lt_of_le hm (Nat.mul_le_mul_left _ (Nat.pow_le_pow_right (by omega) hr))
                by_cases hlt : r < 17
                · repeat' (first | (apply gL; first | (apply Wl.ev rfl rfl; (focus (first | exact ev_move rfl | exact ev_assign rfl | (apply gBin; first | exact ev_lti rfl rfl | exact ev_sub64 rfl rfl (by omega)) | (apply gCal; first | exact ev_len_slice (slT rfl) rfl)))) | apply Wl.nil) | ((show W _ _ _ _ _ _ _ _ _); first | apply W.seq | apply W.region | apply W.block | apply W.skip | (refine W.cond rfl ?_ ?_ <;> (intro h; try (exfalso; first | contradiction | omega | exact h rfl | exact h ⟨rfl, rfl⟩ | (exact Bool.false_ne_true ((by assumption : _ = false).symm.trans h)) | (exact Bool.false_ne_true (h.symm.trans (by assumption))))))))
                  refine W.loop (X := Nat × Nat × List Nat) (fun q => [(4, .bool (decide ((x.toNat : Int) = 45))), (12, .slice (some ⟨b, 0, none⟩) ds.length cap), (13, .int .i64 (m : Nat)), (14, .int .u8 (q.2.1 : Nat)), (15, .int .i64 ((ds.length : Int) - 1 - (q.1 : Nat))), (89, .int .i64 (r : Nat))]) (fun q => [⟨b, true, .cells (digC (es.take (es.length - q.1) ++ q.2.2) z) 5 (cap, cap + 1)⟩])
                    (fun q => q.1 ≤ es.length ∧ dbl (es.drop (es.length - q.1)) = (q.2.1, q.2.2)) (fun q => es.length - q.1) (0, 0, []) ⟨by omega, by simp [dbl]⟩ (by show SubL [(4, _), (12, _), (13, _), (14, Value.int .u8 0), (15, Value.int .i64 ((ds.length : Int) - 1 - 0)), (89, _)] _; rw [Int.sub_zero]; exact (by repeat (first | exact SubL.nil | refine SubL.cons rfl ?_))) (by simp only [Nat.sub_zero, List.take_length, List.append_nil]; exact (by repeat (first | exact SubH.nil | apply SubH.keep | apply SubH.drop | exact List.Sublist.refl _))) ?_
                  rintro ⟨i, c, res⟩ ⟨hi, hdb⟩
                  simp only at hi hdb ⊢
                  by_cases hil : i < es.length
                  · obtain ⟨k, hk⟩ : ∃ k, k = es.length - 1 - i := ⟨_, rfl⟩
                    have hk1 : es.length - i = k + 1 := by omega
                    have hkl : k < es.length := by omega
                    rw [hk1] at hdb ⊢
                    have hd9 : es[k] < 10 := hed _ (List.getElem_mem hkl)
                    have hc1 : c ≤ 1 := by
                      have := dbl_carry (es.drop (k + 1)) (fun d h => hed d (List.mem_of_mem_drop h))
                      rw [hdb] at this
                      exact this
                    have hnext : dbl (es.drop k) = ((2 * es[k] + c) / 10, (2 * es[k] + c) % 10 :: res) := by
                      rw [List.drop_eq_getElem_cons hkl]
                      simp [dbl, hdb]
                    have hsplit : es.take (k + 1) = es.take k ++ [es[k]] := List.take_succ_eq_append_getElem hkl
                    have hcur : es.take (k + 1) ++ res = es.take k ++ es[k] :: res := by rw [hsplit, List.append_assoc]; rfl
                    have htk : (es.take k).length = k := by simp; omega
                    have hrl : res.length = es.length - (k + 1) := by
                      have := dbl_len (es.drop (k + 1))
                      rw [hdb] at this
                      simpa using this
                    have hcell : ∀ off, off = k → (digC (es.take (k + 1) ++ res) z)[off]? = some (.int .u8 ((48 + es[k] : Nat) : Int)) := fun off ho => by
                      subst ho
                      rw [digC_get _ _ _ (by simp; omega)]
                      simp [hcur, htk]
                    have hset : ∀ (off : Nat) (y : Int) (v : Nat), off = k → y = ((48 + v : Nat) : Int) → SubH [⟨b, true, .cells (digC (es.take k ++ v :: res) z) 5 (cap, cap + 1)⟩] [⟨b, true, .cells ((digC (es.take (k + 1) ++ res) z).setIfInBounds off (.int .u8 y)) 5 (cap, cap + 1)⟩] := fun off y v ho hy => by
                      subst ho
                      subst hy
                      have := digC_set (es.take off) res es[off] v z
                      rw [htk] at this
                      rw [hcur, this]
                      exact List.Sublist.refl _
                    repeat' (first | (apply gL; first | (apply Wl.ev rfl rfl; (focus (first | exact ev_move rfl | (apply gLoa; first | exact ev_loadAt (agT rfl) rfl (by repeat (first | exact List.Mem.head _ | apply List.Mem.tail)) (hcell _ (by omega))) | exact ev_assign rfl | (apply gBin; first | exact (ev_quo rfl rfl (by decide)).to (quo10_ok _ _ hd9 hc1) | exact (ev_rem rfl rfl (by decide)).to (rem10_ok _ _ hd9 hc1) | exact ev_gei rfl rfl | exact ev_sub64 rfl rfl (by omega) | exact ev_addK rfl rfl (by first | exact wrap64_in (by omega) | exact IntWalk.u8_in _ (by omega) | exact IntWalk.i32_in _ (by omega)) | exact ev_subK rfl rfl (by first | exact wrap64_in (by omega) | exact IntWalk.u8_in _ (by omega) | exact IntWalk.i32_in _ (by omega)) | exact ev_mulK rfl rfl (by first | exact wrap64_in (by omega) | exact IntWalk.u8_in _ (by omega) | exact IntWalk.i32_in _ (by omega))) | (apply gIxA; first | exact ev_indexAddr (slT rfl) (szT rfl) rfl rfl (by omega))))) | (refine wl_storeCell rfl rfl rfl rfl (szT rfl) (by repeat (first | exact Upd.here | apply Upd.there)) (by rw [digC_size]; simp; omega) (by simp; omega) ?_) | apply Wl.nil) | ((show W _ _ _ _ _ _ _ _ _); first | apply W.seq | apply W.region | apply W.block | apply W.blk | apply W.skip | (refine W.cond rfl ?_ ?_ <;> (intro h; try (exfalso; first | contradiction | omega | exact h rfl | exact h ⟨rfl, rfl⟩ | (exact Bool.false_ne_true ((by assumption : _ = false).symm.trans h)) | (exact Bool.false_ne_true (h.symm.trans (by assumption))))))))
                    refine W.again (i + 1, (2 * es[k] + c) / 10, ((2 * es[k] + c) % 10) :: res) ?_ ?_ (by rw [show ((ds.length : Int) - 1 - ((i + 1 : Nat) : Int)) = (ds.length : Int) - 1 - i - 1 by omega]; exact (by repeat (first | exact SubL.nil | refine SubL.cons rfl ?_))) ?_
                    · refine ⟨by simp only; omega, ?_⟩
                      simp only
                      rw [show es.length - (i + 1) = k by omega, hnext]
                    · simp only; omega
                    · simp only
                      rw [show es.length - (i + 1) = k by omega]
                      exact hset _ _ _ (by omega) (by omega)
                  · have hii : i = es.length := by omega
                    subst hii
                    rw [Nat.sub_self] at hdb ⊢
                    rw [List.drop_zero] at hdb
                    simp only [List.take_zero, List.nil_append]
                    have hc1 : c ≤ 1 := by
                      have := dbl_carry es hed
                      rw [hdb] at this
                      exact this
                    repeat' (first | (apply gL; first | (apply Wl.ev rfl rfl; (focus (first | exact ev_move rfl | exact ev_assign rfl | (apply gBin; first | exact ev_gei rfl rfl | exact ev_add64 rfl rfl (by omega) | exact ev_mul64 rfl rfl (by omega)) | (apply gCon; first | exact ev_convK (dT rfl) (intT rfl) rfl (by first | exact wrap64_in (by omega) | exact IntWalk.u8_in _ (by omega) | exact IntWalk.i32_in _ (by omega)))))) | apply Wl.nil) | ((show W _ _ _ _ _ _ _ _ _); first | apply W.seq | (refine W.again (r + 1, 2 * m + c, res) ?_ ?_ (by repeat (first | exact SubL.nil | refine SubL.cons rfl ?_)) (by repeat (first | exact SubH.nil | apply SubH.keep | apply SubH.drop | exact List.Sublist.refl _))) | apply W.region | apply W.blk | (refine W.exit rfl ?_) | (refine W.cond rfl ?_ ?_ <;> (intro h; try (exfalso; first | contradiction | omega | exact h rfl | exact h ⟨rfl, rfl⟩ | (exact Bool.false_ne_true ((by assumption : _ = false).symm.trans h)) | (exact Bool.false_ne_true (h.symm.trans (by assumption))))))))
                    · refine ⟨by simp only; omega, ?_, ?_, ?_, ?_⟩
                      · simp only
                        rw [Nat.pow_succ]; omega
                      · have := dbl_len es
                        rw [hdb] at this
                        simp only at this ⊢
                        omega
                      · have := dbl_digit es
                        rw [hdb] at this
                        exact this
                      · rw [← heq, show 17 - r = (17 - (r + 1)) + 1 by omega]
                        simp only [binS_succ, hdb]
                    · simp only; omega
                · have h17 : r = 17 := by omega
                  subst h17
                  have hBm : m = binS 17 N ds := by rw [← heq]; exact (binS_zero _ _).symm
                  repeat' (first | (apply gL; first | (apply Wl.ev rfl rfl; (focus (first | exact ev_move rfl | exact ev_assign rfl | (apply gBin; first | exact (ev_quo rfl rfl (by decide)).to (half_ok _ (by omega)) | exact ev_lti rfl rfl | exact ev_add64 rfl rfl (by omega))))) | ((show Wl _ _ _ _ _ _ _ (⟨_, .call ⟨.value (.func 69), _, _⟩, _, _, _, _⟩ :: _) _ _); refine wl_call0 rfl rfl has69 rfl (fun w _ => raw02_ok _ w) ?_) | apply Wl.nil) | ((show W _ _ _ _ _ _ _ _ _); first | apply W.seq | apply W.region | apply W.skip | (refine W.exit rfl ?_) | (refine W.condF rfl ?_) | (refine W.cond rfl ?_ ?_ <;> (intro h; try (exfalso; first | contradiction | omega | exact h rfl | exact h ⟨rfl, rfl⟩ | (exact Bool.false_ne_true ((by assumption : _ = false).symm.trans h)) | (exact Bool.false_ne_true (h.symm.trans (by assumption)))))) | (refine W.ret2 rfl rfl rfl ?_; intro w hs)))
                  exact ret_eq hs (by rw [hres, ← hs0]; simp only [after02]; rw [if_neg (by omega), hnum, ← hBm]; rfl)
  · repeat' (first | (apply gL; first | (apply Wl.ev rfl rfl; (focus (first | exact ev_move rfl | exact ev_assign rfl | exact ev_gti rfl rfl | (apply gCal; first | exact ev_len_string (strT rfl) rfl)))) | apply Wl.nil) | ((show W _ _ _ _ _ _ _ _ _); first | apply W.seq | apply W.region | (refine W.cond rfl ?_ ?_ <;> (intro h; try (exfalso; first | contradiction | omega | exact h rfl | exact h ⟨rfl, rfl⟩ | (exact Bool.false_ne_true ((by assumption : _ = false).symm.trans h)) | (exact Bool.false_ne_true (h.symm.trans (by assumption)))))) | (refine W.ret2 rfl rfl rfl ?_; intro w hs)))
    exact ret_eq hs (by unfold parse02S; rw [if_pos (by omega)])
end Go.Proofs.YthhfandandfeeaaDoor
