/- The document's numbers out of texts. No condition. -/
import Derived.Test.YtbinaeemcidicaaGreatZR6
set_option maxRecDepth 100000
set_option maxHeartbeats 16000000
namespace Go.Proofs.YtbinaeemcidicaaGreat
open Go.PB Go.RowKit
attribute [local irreducible] Go.Calls
theorem raw02_ok (x : Int) (w : World) : Calls Tryz.prog 108 #[.int .i64 x] w (Give (.int .i32 (rawS x)) w) := by
 refine give_of_W (vs := [.int .i64 x]) Tryz.func108 rfl Tryz.ntmps108 (Nat.le_of_ble_eq_true rfl) (St.nil w _) ?_
 simp only [argL]
 repeat' (first | (apply gL; first | (apply Wl.ev rfl rfl; exact Zev) | apply Wl.nil) | (apply lW; first | apply W.seq | apply W.region | apply W.skip | (refine Zv ?_ ?_ <;> (intro h; try exact Zh)) | (refine Zx ?_; intro w hs)))
 ·exact ret_eq hs (by unfold rawS; congr 1; omega)
 ·exact ret_eq hs (by unfold rawS; congr 1; omega)
 ·exact ret_eq hs (by unfold rawS; congr 1; omega)
theorem of02_ok (x : Int) (w : World) : Calls Tryz.prog 92 #[.int .i64 x] w (Give (.int .i32 (ofS x)) w) := by
 refine give_of_W (vs := [.int .i64 x]) Tryz.func92 rfl Tryz.ntmps92 (Nat.le_of_ble_eq_true rfl) (St.nil w _) ?_
 simp only [argL]
 repeat' (first | (apply gL; first | (apply Wl.ev rfl rfl; exact Zev) | (refine lD 108 ?_; refine wl_call0 rfl rfl has108 rfl (fun w _ => raw02_ok _ w) ?_) | apply Wl.nil) | (apply lW; first | apply W.seq | apply W.region | apply W.skip | (refine Zv ?_ ?_ <;> (intro h; try exact Zh)) | (refine Zx ?_; intro w hs)))
 ·exact ret_eq hs (by unfold ofS rawS; congr 1; omega)
 ·exact ret_eq hs (by unfold ofS rawS; congr 1; omega)
 ·exact ret_eq hs (by unfold ofS rawS; congr 1; omega)
theorem parse02_ok (l : List UInt8) (hlen : l.length < 4611686018427387904) (w : World) : Calls Tryz.prog 91 #[st l] w (Give (res2i (parse02S l)) w) := by
 refine give_of_W (vs := [st l]) Tryz.func91 rfl Tryz.ntmps91 (Nat.le_of_ble_eq_true rfl) (St.nil w _) ?_
 simp only [argL]
 by_cases hl : l.length ≤ 40
 ·match l, hlen, hl with
  | [], hlen, hl =>
   repeat' (first | (apply gL; first | (apply Wl.ev rfl rfl; exact Zev) | apply Wl.nil | (refine Zbb ?_)) | (apply gQ; first | (apply Wq.ev rfl rfl; exact Zev)) | (apply lW; first | apply W.seq | (refine W.rounds 1 ?_) | apply W.round | apply W.region | apply W.block | apply W.skip | (refine Zbm ?_) | (refine Zbh ?_) | (refine Zbc ?_) | (refine Zdg ?_; intro w hs)))
   all_goals exact ret_eq hs rfl
  | x :: l, hlen, hl =>
   by_cases hx : x = 45
   ·have hxn : ((x.toNat : Int) = 45) := by rw [hx]; rfl
    repeat' (first | (apply gL; first | (apply Wl.ev rfl rfl; exact Zm6) | apply Wl.nil) | (apply gQ; first | (apply Wq.ev rfl rfl; exact Zm6)) | (apply lW; first | apply W.seq | apply W.region | apply W.block | apply W.skip | (refine Zv ?_ ?_ <;> (intro h; try exact Za))))
    have htl : (l).length ≤ 40 := by simp at hl ⊢; omega
    have hres : parse02S (x :: l) = after02 true (l) (scanS (l) 0 (-1) 0) := by
     unfold parse02S
     rw [if_neg (by simp at hl ⊢; omega)]
     simp [hx]
    obtain ⟨R, hR⟩ : ∃ R, parse02S (x :: l) = R := ⟨_, rfl⟩
    rw [hR] at hres ⊢
    obtain ⟨t, ht⟩ : ∃ t, l = t := ⟨_, rfl⟩
    rw [ht] at htl hres
    obtain ⟨sc, hsc⟩ : ∃ sc, scanS t 0 (-1) 0 = sc := ⟨_, rfl⟩
    rw [hsc] at hres
    refine W.loop (X := Nat × Int × Nat) (fun q => [(0, st t), (4, .bool (decide ((x.toNat : Int) = 45))), (5, .int .i64 q.2.1), (6, .int .i64 (q.2.2 : Nat)), (31, .int .i64 (t.length : Nat)), (32, .int .i64 (q.1 : Nat))]) (fun _ => [])
     (fun q => q.1 ≤ t.length ∧ q.2.2 ≤ q.1 ∧ -1 ≤ q.2.1 ∧ q.2.1 < q.1 ∧ scanS (t.drop q.1) q.1 q.2.1 q.2.2 = sc) (fun q => t.length - q.1) (0, -1, 0) ⟨Nat.zero_le _, Nat.le_refl _, by simp, by simp, hsc⟩ (by rw [← ht]; exact Zm) Zb ?_
    rintro ⟨i, p, c⟩ ⟨hi, hci, hp1, hp, hs0⟩
    simp only at hi hci hp1 hp hs0 ⊢
    by_cases hlt : i < t.length
    ·have hd : t.drop i = t.getD i 0 :: t.drop (i + 1) := by rw [List.drop_eq_getElem_cons hlt]; simp [List.getD, hlt]
     rw [hd] at hs0
     simp only [scanS] at hs0
     by_cases hb : isD (t.getD i 0)
     ·rw [if_pos hb] at hs0
      unfold isD at hb
      repeat' (first | (apply gL; first | (apply Wl.ev rfl rfl; exact Zbf) | apply Wl.nil | ((fail_if_success (apply Wl.chk rfl)); refine Wl.split rfl rfl ?_ ?_ <;> (intro h; try exact Za))) | (apply gQ; first | (apply Wq.ev rfl rfl; exact Zbf)) | (apply lW; first | apply W.seq | (refine W.again (i + 1, p, c + 1) ?_ ?_ Zm Zb) | apply W.region | apply W.block | apply W.blk | apply W.skip | (refine Zv ?_ ?_ <;> (intro h; try exact Za))))
      ·exact ⟨by simp only; omega, by simp only; omega, hp1, by simp only; omega, hs0⟩
      ·simp only; omega
     ·rw [if_neg hb] at hs0
      have hbn : ¬(48 ≤ (t.getD i 0).toNat ∧ (t.getD i 0).toNat ≤ 57) := hb
      by_cases hq : t.getD i 0 = 46 ∧ p < 0
      ·rw [if_pos hq] at hs0
       have hq1 : ((t.getD i 0).toNat : Int) = 46 := by rw [hq.1]; rfl
       have hq2 := hq.2
       repeat' (first | (apply gL; first | (apply Wl.ev rfl rfl; exact Zbf) | apply Wl.nil | (refine Zbb ?_) | ((fail_if_success (apply Wl.chk rfl)); refine Wl.split rfl rfl ?_ ?_ <;> (intro h; try exact Za))) | (apply gQ; first | (apply Wq.ev rfl rfl; exact Zbf)) | (apply lW; first | apply W.seq | (refine W.again (i + 1, (i : Int), c) ?_ ?_ Zm Zb) | apply W.region | apply W.block | apply W.blk | apply W.skip | (refine Zbc ?_) | (refine Zv ?_ ?_ <;> (intro h; try exact Za))))
       ·exact ⟨by simp only; omega, by simp only; omega, by simp only; omega, by simp only; omega, hs0⟩
       ·simp only; omega
      ·rw [if_neg hq] at hs0
       have hqn : ¬(((t.getD i 0).toNat : Int) = 46 ∧ p < 0) := fun h => hq ⟨UInt8.toNat_inj.1 (by have := h.1; show _ = 46; omega), h.2⟩
       repeat' (first | (apply gL; first | (apply Wl.ev rfl rfl; exact Zbf) | apply Wl.nil | (refine Zbb ?_) | ((fail_if_success (apply Wl.chk rfl)); refine Wl.split rfl rfl ?_ ?_ <;> (intro h; try exact Za))) | (apply gQ; first | (apply Wq.ev rfl rfl; exact Zbf)) | (apply lW; first | apply W.seq | apply W.region | apply W.block | apply W.skip | (refine Zbc ?_) | (refine Zv ?_ ?_ <;> (intro h; try exact Za)) | (refine Zdg ?_; intro w hs)))
       all_goals exact ret_eq hs (by rw [hres, ← hs0]; rfl)
    ·have hie : i = t.length := by omega
     subst hie
     rw [List.drop_length] at hs0
     simp only [scanS] at hs0
     have hsome := scan_some (hsc.trans hs0.symm)
     rcases hsome with hsome | hsome
     ·obtain ⟨rfl, hall, hcl⟩ := hsome
      have hwh : wh02 (-1) t = t := rfl
      have hpa : pa02 (-1) t = [] := rfl
      have hwd : ∀ b ∈ t, isD b := hall
      have hpd : ∀ b ∈ ([] : List UInt8), isD b := by simp
      have hwl : (t).length ≤ 40 := by first | omega | (simp; omega)
      have hpl : (([] : List UInt8)).length ≤ 40 := by first | (simp; done) | (simp; omega)
      have hnum : num02 true (-1) t = rawS (if true = true then -(((binS 17 (wholeS 1048576 (t)) (digs ([])) + 1) / 2 : Nat) : Int) else ((binS 17 (wholeS 1048576 (t)) (digs ([])) + 1) / 2 : Nat)) := by
       unfold num02
       rw [hwh, hpa]
      repeat' (first | (apply gL; first | (apply Wl.ev rfl rfl; exact Zev) | apply Wl.nil) | (apply gQ; first | (apply Wq.ev rfl rfl; exact Zev)) | (apply lW; first | apply W.seq | apply W.region | apply W.block | apply W.skip | (refine Zbm ?_) | (refine Zbc ?_) | (refine Zv ?_ ?_ <;> (intro h; try exact Za)) | (refine Zdg ?_; intro w hs)))
      try (any_goals exact ret_eq hs Zet)
      ·refine W.loop (X := Nat) (fun i => [(4, .bool (decide ((x.toNat : Int) = 45))), (8, st (t)), (9, st ([])), (10, .int .i64 ((wholeS 1048576 ((t).take i) : Nat) : Int)), (72, .int .i64 ((t).length : Nat)), (73, .int .i64 (i : Nat))]) (fun _ => []) (fun i => i ≤ (t).length) (fun i => (t).length - i) 0 (Nat.zero_le _) Zm Zb ?_
       rename_i hcn
       intro i hi
       have hle := wholeS_le 1048576 ((t).take i)
       by_cases hlt : i < (t).length
       ·have hb : isD ((t).getD i 0) := hwd _ (getD_mem hlt)
        unfold isD at hb
        have e1 : (t).take (i + 1) = (t).take i ++ [(t).getD i 0] := take_snoc hlt
        have e2 : ((wholeS 1048576 ((t).take (i + 1)) : Nat) : Int) = min (10 * (wholeS 1048576 ((t).take i) : Int) + ((((t).getD i 0).toNat : Int) - 48)) 1048576 := by
         rw [e1, wholeS_snoc]; omega
        repeat' (first | (apply gL; first | (apply Wl.ev rfl rfl; exact Zfa) | apply Wl.nil) | (apply lW; first | apply W.seq | (refine W.again (i + 1) ?_ ?_ Zhp Zb) | apply W.region | apply W.block | apply W.blk | apply W.skip | (refine Zv ?_ ?_ <;> (intro h; try exact Za))))
        ·omega
        ·omega
       ·have hpe : (t).take i = t := List.take_of_length_le Zga
        rw [hpe] at hle ⊢
        obtain ⟨N, hN⟩ : ∃ N, wholeS 1048576 (t) = N := ⟨_, rfl⟩
        rw [hN] at hnum hle ⊢
        obtain ⟨ds, hds⟩ : ∃ ds, digs ([]) = ds := ⟨_, rfl⟩
        have hback := digs_back hpd
        have hd := digs_lt hpd
        have hdl := digs_len ([])
        rw [hds] at hnum hback hd hdl
        have hdsl : ds.length ≤ 40 := by rw [hdl]; exact hpl
        rw [← hback]
        repeat' (first | (apply gL; first | (apply Wl.ev rfl rfl; exact Zev) | apply Wl.nil | (refine Zd4 ?_; intro b cap hcap)) | (apply lW; first | apply W.seq | apply W.region | apply W.block | (refine Zbm ?_) | (refine Zv ?_ ?_ <;> (intro h; try exact Za))))
        rw [digB_len] at hcap ⊢
        rw [digB_cells ds hd]
        obtain ⟨z, hz⟩ : ∃ z, cap - ds.length = z := ⟨_, rfl⟩
        rw [hz]
        refine W.loop (X := Nat × Nat × List Nat) (fun q => [(4, .bool (decide ((x.toNat : Int) = 45))), (12, .slice (some ⟨b, 0, none⟩) ds.length cap), (13, .int .i64 (q.2.1 : Nat)), (89, .int .i64 (q.1 : Nat))]) (fun q => [⟨b, true, .cells (digC q.2.2 z) 5 (cap, cap + 1)⟩])
         (fun q => q.1 ≤ 17 ∧ q.2.1 < 1048577 * 2 ^ q.1 ∧ q.2.2.length = ds.length ∧ (∀ d ∈ q.2.2, d < 10) ∧ binS (17 - q.1) q.2.1 q.2.2 = binS 17 N ds) (fun q => 17 - q.1) (0, N, ds) ⟨by omega, by simp; omega, rfl, hd, rfl⟩ Zm Zb ?_
        rintro ⟨r, m, es⟩ ⟨hr, hm, hel, hed, heq⟩
        simp only at hr hm hel hed heq ⊢
        have hm2 : m < 1048577 * 131072 := Nat.lt_of_lt_of_le hm (Nat.mul_le_mul_left _ (Nat.pow_le_pow_right Zga hr))
        by_cases hlt : r < 17
        ·repeat' (first | (apply gL; first | (apply Wl.ev rfl rfl; exact Zev) | apply Wl.nil) | (apply lW; first | apply W.seq | apply W.region | apply W.block | apply W.skip | (refine Zv ?_ ?_ <;> (intro h; try exact Za))))
         refine W.loop (X := Nat × Nat × List Nat) (fun q => [(4, .bool (decide ((x.toNat : Int) = 45))), (12, .slice (some ⟨b, 0, none⟩) ds.length cap), (13, .int .i64 (m : Nat)), (14, .int .u8 (q.2.1 : Nat)), (15, .int .i64 ((ds.length : Int) - 1 - (q.1 : Nat))), (89, .int .i64 (r : Nat))]) (fun q => [⟨b, true, .cells (digC (es.take (es.length - q.1) ++ q.2.2) z) 5 (cap, cap + 1)⟩])
          (fun q => q.1 ≤ es.length ∧ dbl (es.drop (es.length - q.1)) = (q.2.1, q.2.2)) (fun q => es.length - q.1) (0, 0, []) ⟨by omega, by simp [dbl]⟩ Zgv Zj3 ?_
         rintro ⟨i, c, res⟩ ⟨hi, hdb⟩
         simp only at hi hdb ⊢
         by_cases hil : i < es.length
         ·exact absurd hil (by have h0 : ds.length = 0 := hdl; omega)
         ·have hii : i = es.length := by omega
          subst hii
          rw [Nat.sub_self] at hdb ⊢
          rw [List.drop_zero] at hdb
          simp only [List.take_zero, List.nil_append]
          have hc1 : c ≤ 1 := by
           have := dbl_carry es hed
           rw [hdb] at this
           exact this
          repeat' (first | (apply gL; first | (apply Wl.ev rfl rfl; exact Zev) | apply Wl.nil) | (apply lW; first | apply W.seq | (refine W.again (r + 1, 2 * m + c, res) ?_ ?_ Zm Zb) | apply W.region | apply W.blk | (refine Zbm ?_) | (refine Zv ?_ ?_ <;> (intro h; try exact Za))))
          ·refine ⟨by simp only; omega, ?_, ?_, ?_, ?_⟩
           ·simp only
            rw [Nat.pow_succ]; omega
           ·have := dbl_len es
            rw [hdb] at this
            simp only at this ⊢
            omega
           ·have := dbl_digit es
            rw [hdb] at this
            exact this
           ·rw [← heq, show 17 - r = (17 - (r + 1)) + 1 by omega]
            simp only [binS_succ, hdb]
          ·simp only; omega
        ·have h17 : r = 17 := by omega
         subst h17
         have hBm : m = binS 17 N ds := by rw [← heq]; exact (binS_zero _ _).symm
         repeat' (first | (apply gL; first | (apply Wl.ev rfl rfl; exact Zd0) | (refine lD 108 ?_; refine wl_call0 rfl rfl has108 rfl (fun w _ => raw02_ok _ w) ?_) | apply Wl.nil) | (apply lW; first | apply W.seq | apply W.region | (refine Zbm ?_) | (refine Zbc ?_) | (refine Zv ?_ ?_ <;> (intro h; try exact Za)) | (refine Zdg ?_; intro w hs)))
         exact ret_eq hs Zeg
     ·obtain ⟨_, k0, hk0, hpk, h46, hwd, hpd, hcl⟩ := hsome
      rw [Nat.zero_add] at hpk
      subst hpk
      have hwh : wh02 (k0 : Int) t = t.take k0 := by simp [wh02]
      have hpa : pa02 (k0 : Int) t = t.drop (k0 + 1) := by simp [pa02]
      have hwl : (t.take k0).length ≤ 40 := by first | omega | (simp; omega)
      have hpl : (t.drop (k0 + 1)).length ≤ 40 := by first | (simp; done) | (simp; omega)
      have hnum : num02 true (k0 : Int) t = rawS (if true = true then -(((binS 17 (wholeS 1048576 (t.take k0)) (digs (t.drop (k0 + 1))) + 1) / 2 : Nat) : Int) else ((binS 17 (wholeS 1048576 (t.take k0)) (digs (t.drop (k0 + 1))) + 1) / 2 : Nat)) := by
       unfold num02
       rw [hwh, hpa]
      repeat' (first | (apply gL; first | (apply Wl.ev rfl rfl; exact Zc6) | apply Wl.nil) | (apply gQ; first | (apply Wq.ev rfl rfl; exact Zc6) | apply Wq.nil) | (apply lW; first | apply W.seq | (refine Zgf ?_) | apply W.region | apply W.block | apply W.skip | (refine Zbm ?_) | (refine Zbh ?_) | (refine Zv ?_ ?_ <;> (intro h; try exact Za)) | (refine Zdg ?_; intro w hs)))
      try (any_goals exact ret_eq hs Zet)
      ·refine W.loop (X := Nat) (fun i => [(4, .bool (decide ((x.toNat : Int) = 45))), (8, st (t.take k0)), (9, st (t.drop (k0 + 1))), (10, .int .i64 ((wholeS 1048576 ((t.take k0).take i) : Nat) : Int)), (72, .int .i64 ((t.take k0).length : Nat)), (73, .int .i64 (i : Nat))]) (fun _ => []) (fun i => i ≤ (t.take k0).length) (fun i => (t.take k0).length - i) 0 (Nat.zero_le _) Zm Zb ?_
       rename_i hcn
       intro i hi
       have hle := wholeS_le 1048576 ((t.take k0).take i)
       by_cases hlt : i < (t.take k0).length
       ·have hb : isD ((t.take k0).getD i 0) := hwd _ (getD_mem hlt)
        unfold isD at hb
        have e1 : (t.take k0).take (i + 1) = (t.take k0).take i ++ [(t.take k0).getD i 0] := take_snoc hlt
        have e2 : ((wholeS 1048576 ((t.take k0).take (i + 1)) : Nat) : Int) = min (10 * (wholeS 1048576 ((t.take k0).take i) : Int) + ((((t.take k0).getD i 0).toNat : Int) - 48)) 1048576 := by
         rw [e1, wholeS_snoc]; omega
        repeat' (first | (apply gL; first | (apply Wl.ev rfl rfl; exact Ze1) | apply Wl.nil) | (apply lW; first | apply W.seq | (refine W.again (i + 1) ?_ ?_ Zhp Zb) | apply W.region | apply W.block | apply W.blk | apply W.skip | (refine Zv ?_ ?_ <;> (intro h; try exact Za))))
        ·omega
        ·omega
       ·have hpe : (t.take k0).take i = t.take k0 := List.take_of_length_le Zga
        rw [hpe] at hle ⊢
        obtain ⟨N, hN⟩ : ∃ N, wholeS 1048576 (t.take k0) = N := ⟨_, rfl⟩
        rw [hN] at hnum hle ⊢
        obtain ⟨ds, hds⟩ : ∃ ds, digs (t.drop (k0 + 1)) = ds := ⟨_, rfl⟩
        have hback := digs_back hpd
        have hd := digs_lt hpd
        have hdl := digs_len (t.drop (k0 + 1))
        rw [hds] at hnum hback hd hdl
        have hdsl : ds.length ≤ 40 := by rw [hdl]; exact hpl
        rw [← hback]
        repeat' (first | (apply gL; first | (apply Wl.ev rfl rfl; exact Zev) | apply Wl.nil | (refine Zd4 ?_; intro b cap hcap)) | (apply lW; first | apply W.seq | apply W.region | apply W.block | (refine Zbm ?_) | (refine Zv ?_ ?_ <;> (intro h; try exact Za))))
        rw [digB_len] at hcap ⊢
        rw [digB_cells ds hd]
        obtain ⟨z, hz⟩ : ∃ z, cap - ds.length = z := ⟨_, rfl⟩
        rw [hz]
        refine W.loop (X := Nat × Nat × List Nat) (fun q => [(4, .bool (decide ((x.toNat : Int) = 45))), (12, .slice (some ⟨b, 0, none⟩) ds.length cap), (13, .int .i64 (q.2.1 : Nat)), (89, .int .i64 (q.1 : Nat))]) (fun q => [⟨b, true, .cells (digC q.2.2 z) 5 (cap, cap + 1)⟩])
         (fun q => q.1 ≤ 17 ∧ q.2.1 < 1048577 * 2 ^ q.1 ∧ q.2.2.length = ds.length ∧ (∀ d ∈ q.2.2, d < 10) ∧ binS (17 - q.1) q.2.1 q.2.2 = binS 17 N ds) (fun q => 17 - q.1) (0, N, ds) ⟨by omega, by simp; omega, rfl, hd, rfl⟩ Zm Zb ?_
        rintro ⟨r, m, es⟩ ⟨hr, hm, hel, hed, heq⟩
        simp only at hr hm hel hed heq ⊢
        have hm2 : m < 1048577 * 131072 := Nat.lt_of_lt_of_le hm (Nat.mul_le_mul_left _ (Nat.pow_le_pow_right Zga hr))
        by_cases hlt : r < 17
        ·repeat' (first | (apply gL; first | (apply Wl.ev rfl rfl; exact Zev) | apply Wl.nil) | (apply lW; first | apply W.seq | apply W.region | apply W.block | apply W.skip | (refine Zv ?_ ?_ <;> (intro h; try exact Za))))
         refine W.loop (X := Nat × Nat × List Nat) (fun q => [(4, .bool (decide ((x.toNat : Int) = 45))), (12, .slice (some ⟨b, 0, none⟩) ds.length cap), (13, .int .i64 (m : Nat)), (14, .int .u8 (q.2.1 : Nat)), (15, .int .i64 ((ds.length : Int) - 1 - (q.1 : Nat))), (89, .int .i64 (r : Nat))]) (fun q => [⟨b, true, .cells (digC (es.take (es.length - q.1) ++ q.2.2) z) 5 (cap, cap + 1)⟩])
          (fun q => q.1 ≤ es.length ∧ dbl (es.drop (es.length - q.1)) = (q.2.1, q.2.2)) (fun q => es.length - q.1) (0, 0, []) ⟨by omega, by simp [dbl]⟩ Zgv Zj3 ?_
         rintro ⟨i, c, res⟩ ⟨hi, hdb⟩
         simp only at hi hdb ⊢
         by_cases hil : i < es.length
         ·obtain ⟨k, hk⟩ : ∃ k, k = es.length - 1 - i := ⟨_, rfl⟩
          have hk1 : es.length - i = k + 1 := by omega
          have hkl : k < es.length := by omega
          rw [hk1] at hdb ⊢
          have hd9 : es[k] < 10 := hed _ (List.getElem_mem hkl)
          have hc1 : c ≤ 1 := by
           have := dbl_carry (es.drop (k + 1)) (fun d h => hed d (List.mem_of_mem_drop h))
           rw [hdb] at this
           exact this
          have hnext : dbl (es.drop k) = ((2 * es[k] + c) / 10, (2 * es[k] + c) % 10 :: res) := by
           rw [List.drop_eq_getElem_cons hkl]
           simp [dbl, hdb]
          have hsplit : es.take (k + 1) = es.take k ++ [es[k]] := List.take_succ_eq_append_getElem hkl
          have hcur : es.take (k + 1) ++ res = es.take k ++ es[k] :: res := by rw [hsplit, List.append_assoc]; rfl
          have htk : (es.take k).length = k := by simp; omega
          have hrl : res.length = es.length - (k + 1) := by
           have := dbl_len (es.drop (k + 1))
           rw [hdb] at this
           simpa using this
          have hcell : ∀ off, off = k → (digC (es.take (k + 1) ++ res) z)[off]? = some (.int .u8 ((48 + es[k] : Nat) : Int)) := fun off ho => by
           subst ho
           rw [digC_get _ _ _ Zjw]
           simp [hcur, htk]
          have hset : ∀ (off : Nat) (y : Int) (v : Nat), off = k → y = ((48 + v : Nat) : Int) → SubH [⟨b, true, .cells (digC (es.take k ++ v :: res) z) 5 (cap, cap + 1)⟩] [⟨b, true, .cells ((digC (es.take (k + 1) ++ res) z).setIfInBounds off (.int .u8 y)) 5 (cap, cap + 1)⟩] := fun off y v ho hy => by
           subst ho
           subst hy
           have := digC_set (es.take off) res es[off] v z
           rw [htk] at this
           rw [hcur, this]
           exact List.Sublist.refl _
          repeat' (first | (apply gL; first | (apply Wl.ev rfl rfl; exact Zmt) | (refine Zm4 ?_) | apply Wl.nil) | (apply lW; first | apply W.seq | apply W.region | apply W.block | apply W.blk | apply W.skip | (refine Zv ?_ ?_ <;> (intro h; try exact Za))))
          refine W.again (i + 1, (2 * es[k] + c) / 10, ((2 * es[k] + c) % 10) :: res) ?_ ?_ Zmg ?_
          ·refine ⟨by simp only; omega, ?_⟩
           simp only
           rw [show es.length - (i + 1) = k by omega, hnext]
          ·simp only; omega
          ·simp only
           rw [show es.length - (i + 1) = k by omega]
           exact hset _ _ _ Zga Zga
         ·have hii : i = es.length := by omega
          subst hii
          rw [Nat.sub_self] at hdb ⊢
          rw [List.drop_zero] at hdb
          simp only [List.take_zero, List.nil_append]
          have hc1 : c ≤ 1 := by
           have := dbl_carry es hed
           rw [hdb] at this
           exact this
          repeat' (first | (apply gL; first | (apply Wl.ev rfl rfl; exact Zev) | apply Wl.nil) | (apply lW; first | apply W.seq | (refine W.again (r + 1, 2 * m + c, res) ?_ ?_ Zm Zb) | apply W.region | apply W.blk | (refine Zbm ?_) | (refine Zv ?_ ?_ <;> (intro h; try exact Za))))
          ·refine ⟨by simp only; omega, ?_, ?_, ?_, ?_⟩
           ·simp only
            rw [Nat.pow_succ]; omega
           ·have := dbl_len es
            rw [hdb] at this
            simp only at this ⊢
            omega
           ·have := dbl_digit es
            rw [hdb] at this
            exact this
           ·rw [← heq, show 17 - r = (17 - (r + 1)) + 1 by omega]
            simp only [binS_succ, hdb]
          ·simp only; omega
        ·have h17 : r = 17 := by omega
         subst h17
         have hBm : m = binS 17 N ds := by rw [← heq]; exact (binS_zero _ _).symm
         repeat' (first | (apply gL; first | (apply Wl.ev rfl rfl; exact Zd0) | (refine lD 108 ?_; refine wl_call0 rfl rfl has108 rfl (fun w _ => raw02_ok _ w) ?_) | apply Wl.nil) | (apply lW; first | apply W.seq | apply W.region | (refine Zbm ?_) | (refine Zbc ?_) | (refine Zv ?_ ?_ <;> (intro h; try exact Za)) | (refine Zdg ?_; intro w hs)))
         exact ret_eq hs Zeg
   ·have hxn : ¬((x.toNat : Int) = 45) := fun h => hx (UInt8.toNat_inj.1 (by show _ = 45; omega))
    repeat' (first | (apply gL; first | (apply Wl.ev rfl rfl; (focus (first | exact Zdi | exact Zev))) | apply Wl.nil) | (apply gQ; first | (apply Wq.ev rfl rfl; (focus (first | exact Zdi | exact Zev)))) | (apply lW; first | apply W.seq | apply W.region | apply W.block | apply W.skip | (refine Zv ?_ ?_ <;> (intro h; try exact Za))))
    have htl : (x :: l).length ≤ 40 := by simp at hl ⊢; omega
    have hres : parse02S (x :: l) = after02 false (x :: l) (scanS (x :: l) 0 (-1) 0) := by
     unfold parse02S
     rw [if_neg (by simp at hl ⊢; omega)]
     simp [hx]
    obtain ⟨R, hR⟩ : ∃ R, parse02S (x :: l) = R := ⟨_, rfl⟩
    rw [hR] at hres ⊢
    obtain ⟨t, ht⟩ : ∃ t, x :: l = t := ⟨_, rfl⟩
    rw [ht] at htl hres
    obtain ⟨sc, hsc⟩ : ∃ sc, scanS t 0 (-1) 0 = sc := ⟨_, rfl⟩
    rw [hsc] at hres
    refine W.loop (X := Nat × Int × Nat) (fun q => [(0, st t), (4, .bool (decide ((x.toNat : Int) = 45))), (5, .int .i64 q.2.1), (6, .int .i64 (q.2.2 : Nat)), (31, .int .i64 (t.length : Nat)), (32, .int .i64 (q.1 : Nat))]) (fun _ => [])
     (fun q => q.1 ≤ t.length ∧ q.2.2 ≤ q.1 ∧ -1 ≤ q.2.1 ∧ q.2.1 < q.1 ∧ scanS (t.drop q.1) q.1 q.2.1 q.2.2 = sc) (fun q => t.length - q.1) (0, -1, 0) ⟨Nat.zero_le _, Nat.le_refl _, by simp, by simp, hsc⟩ (by rw [← ht]; exact Zm) Zb ?_
    rintro ⟨i, p, c⟩ ⟨hi, hci, hp1, hp, hs0⟩
    simp only at hi hci hp1 hp hs0 ⊢
    by_cases hlt : i < t.length
    ·have hd : t.drop i = t.getD i 0 :: t.drop (i + 1) := by rw [List.drop_eq_getElem_cons hlt]; simp [List.getD, hlt]
     rw [hd] at hs0
     simp only [scanS] at hs0
     by_cases hb : isD (t.getD i 0)
     ·rw [if_pos hb] at hs0
      unfold isD at hb
      repeat' (first | (apply gL; first | (apply Wl.ev rfl rfl; exact Zbf) | apply Wl.nil | ((fail_if_success (apply Wl.chk rfl)); refine Wl.split rfl rfl ?_ ?_ <;> (intro h; try exact Za))) | (apply gQ; first | (apply Wq.ev rfl rfl; exact Zbf)) | (apply lW; first | apply W.seq | (refine W.again (i + 1, p, c + 1) ?_ ?_ Zm Zb) | apply W.region | apply W.block | apply W.blk | apply W.skip | (refine Zv ?_ ?_ <;> (intro h; try exact Za))))
      ·exact ⟨by simp only; omega, by simp only; omega, hp1, by simp only; omega, hs0⟩
      ·simp only; omega
     ·rw [if_neg hb] at hs0
      have hbn : ¬(48 ≤ (t.getD i 0).toNat ∧ (t.getD i 0).toNat ≤ 57) := hb
      by_cases hq : t.getD i 0 = 46 ∧ p < 0
      ·rw [if_pos hq] at hs0
       have hq1 : ((t.getD i 0).toNat : Int) = 46 := by rw [hq.1]; rfl
       have hq2 := hq.2
       repeat' (first | (apply gL; first | (apply Wl.ev rfl rfl; exact Zbf) | apply Wl.nil | (refine Zbb ?_) | ((fail_if_success (apply Wl.chk rfl)); refine Wl.split rfl rfl ?_ ?_ <;> (intro h; try exact Za))) | (apply gQ; first | (apply Wq.ev rfl rfl; exact Zbf)) | (apply lW; first | apply W.seq | (refine W.again (i + 1, (i : Int), c) ?_ ?_ Zm Zb) | apply W.region | apply W.block | apply W.blk | apply W.skip | (refine Zbc ?_) | (refine Zv ?_ ?_ <;> (intro h; try exact Za))))
       ·exact ⟨by simp only; omega, by simp only; omega, by simp only; omega, by simp only; omega, hs0⟩
       ·simp only; omega
      ·rw [if_neg hq] at hs0
       have hqn : ¬(((t.getD i 0).toNat : Int) = 46 ∧ p < 0) := fun h => hq ⟨UInt8.toNat_inj.1 (by have := h.1; show _ = 46; omega), h.2⟩
       repeat' (first | (apply gL; first | (apply Wl.ev rfl rfl; exact Zbf) | apply Wl.nil | (refine Zbb ?_) | ((fail_if_success (apply Wl.chk rfl)); refine Wl.split rfl rfl ?_ ?_ <;> (intro h; try exact Za))) | (apply gQ; first | (apply Wq.ev rfl rfl; exact Zbf)) | (apply lW; first | apply W.seq | apply W.region | apply W.block | apply W.skip | (refine Zbc ?_) | (refine Zv ?_ ?_ <;> (intro h; try exact Za)) | (refine Zdg ?_; intro w hs)))
       all_goals exact ret_eq hs (by rw [hres, ← hs0]; rfl)
    ·have hie : i = t.length := by omega
     subst hie
     rw [List.drop_length] at hs0
     simp only [scanS] at hs0
     have hsome := scan_some (hsc.trans hs0.symm)
     rcases hsome with hsome | hsome
     ·obtain ⟨rfl, hall, hcl⟩ := hsome
      have hwh : wh02 (-1) t = t := rfl
      have hpa : pa02 (-1) t = [] := rfl
      have hwd : ∀ b ∈ t, isD b := hall
      have hpd : ∀ b ∈ ([] : List UInt8), isD b := by simp
      have hwl : (t).length ≤ 40 := by first | omega | (simp; omega)
      have hpl : (([] : List UInt8)).length ≤ 40 := by first | (simp; done) | (simp; omega)
      have hnum : num02 false (-1) t = rawS (if false = true then -(((binS 17 (wholeS 1048576 (t)) (digs ([])) + 1) / 2 : Nat) : Int) else ((binS 17 (wholeS 1048576 (t)) (digs ([])) + 1) / 2 : Nat)) := by
       unfold num02
       rw [hwh, hpa]
      repeat' (first | (apply gL; first | (apply Wl.ev rfl rfl; exact Zev) | apply Wl.nil) | (apply gQ; first | (apply Wq.ev rfl rfl; exact Zev)) | (apply lW; first | apply W.seq | apply W.region | apply W.block | apply W.skip | (refine Zbm ?_) | (refine Zbc ?_) | (refine Zv ?_ ?_ <;> (intro h; try exact Za)) | (refine Zdg ?_; intro w hs)))
      try (any_goals exact ret_eq hs Zet)
      ·refine W.loop (X := Nat) (fun i => [(4, .bool (decide ((x.toNat : Int) = 45))), (8, st (t)), (9, st ([])), (10, .int .i64 ((wholeS 1048576 ((t).take i) : Nat) : Int)), (72, .int .i64 ((t).length : Nat)), (73, .int .i64 (i : Nat))]) (fun _ => []) (fun i => i ≤ (t).length) (fun i => (t).length - i) 0 (Nat.zero_le _) Zm Zb ?_
       rename_i hcn
       intro i hi
       have hle := wholeS_le 1048576 ((t).take i)
       by_cases hlt : i < (t).length
       ·have hb : isD ((t).getD i 0) := hwd _ (getD_mem hlt)
        unfold isD at hb
        have e1 : (t).take (i + 1) = (t).take i ++ [(t).getD i 0] := take_snoc hlt
        have e2 : ((wholeS 1048576 ((t).take (i + 1)) : Nat) : Int) = min (10 * (wholeS 1048576 ((t).take i) : Int) + ((((t).getD i 0).toNat : Int) - 48)) 1048576 := by
         rw [e1, wholeS_snoc]; omega
        repeat' (first | (apply gL; first | (apply Wl.ev rfl rfl; exact Zfa) | apply Wl.nil) | (apply lW; first | apply W.seq | (refine W.again (i + 1) ?_ ?_ Zhp Zb) | apply W.region | apply W.block | apply W.blk | apply W.skip | (refine Zv ?_ ?_ <;> (intro h; try exact Za))))
        ·omega
        ·omega
       ·have hpe : (t).take i = t := List.take_of_length_le Zga
        rw [hpe] at hle ⊢
        obtain ⟨N, hN⟩ : ∃ N, wholeS 1048576 (t) = N := ⟨_, rfl⟩
        rw [hN] at hnum hle ⊢
        obtain ⟨ds, hds⟩ : ∃ ds, digs ([]) = ds := ⟨_, rfl⟩
        have hback := digs_back hpd
        have hd := digs_lt hpd
        have hdl := digs_len ([])
        rw [hds] at hnum hback hd hdl
        have hdsl : ds.length ≤ 40 := by rw [hdl]; exact hpl
        rw [← hback]
        repeat' (first | (apply gL; first | (apply Wl.ev rfl rfl; exact Zev) | apply Wl.nil | (refine Zd4 ?_; intro b cap hcap)) | (apply lW; first | apply W.seq | apply W.region | apply W.block | (refine Zbm ?_) | (refine Zv ?_ ?_ <;> (intro h; try exact Za))))
        rw [digB_len] at hcap ⊢
        rw [digB_cells ds hd]
        obtain ⟨z, hz⟩ : ∃ z, cap - ds.length = z := ⟨_, rfl⟩
        rw [hz]
        refine W.loop (X := Nat × Nat × List Nat) (fun q => [(4, .bool (decide ((x.toNat : Int) = 45))), (12, .slice (some ⟨b, 0, none⟩) ds.length cap), (13, .int .i64 (q.2.1 : Nat)), (89, .int .i64 (q.1 : Nat))]) (fun q => [⟨b, true, .cells (digC q.2.2 z) 5 (cap, cap + 1)⟩])
         (fun q => q.1 ≤ 17 ∧ q.2.1 < 1048577 * 2 ^ q.1 ∧ q.2.2.length = ds.length ∧ (∀ d ∈ q.2.2, d < 10) ∧ binS (17 - q.1) q.2.1 q.2.2 = binS 17 N ds) (fun q => 17 - q.1) (0, N, ds) ⟨by omega, by simp; omega, rfl, hd, rfl⟩ Zm Zb ?_
        rintro ⟨r, m, es⟩ ⟨hr, hm, hel, hed, heq⟩
        simp only at hr hm hel hed heq ⊢
        have hm2 : m < 1048577 * 131072 := Nat.lt_of_lt_of_le hm (Nat.mul_le_mul_left _ (Nat.pow_le_pow_right Zga hr))
        by_cases hlt : r < 17
        ·repeat' (first | (apply gL; first | (apply Wl.ev rfl rfl; exact Zev) | apply Wl.nil) | (apply lW; first | apply W.seq | apply W.region | apply W.block | apply W.skip | (refine Zv ?_ ?_ <;> (intro h; try exact Za))))
         refine W.loop (X := Nat × Nat × List Nat) (fun q => [(4, .bool (decide ((x.toNat : Int) = 45))), (12, .slice (some ⟨b, 0, none⟩) ds.length cap), (13, .int .i64 (m : Nat)), (14, .int .u8 (q.2.1 : Nat)), (15, .int .i64 ((ds.length : Int) - 1 - (q.1 : Nat))), (89, .int .i64 (r : Nat))]) (fun q => [⟨b, true, .cells (digC (es.take (es.length - q.1) ++ q.2.2) z) 5 (cap, cap + 1)⟩])
          (fun q => q.1 ≤ es.length ∧ dbl (es.drop (es.length - q.1)) = (q.2.1, q.2.2)) (fun q => es.length - q.1) (0, 0, []) ⟨by omega, by simp [dbl]⟩ Zgv Zj3 ?_
         rintro ⟨i, c, res⟩ ⟨hi, hdb⟩
         simp only at hi hdb ⊢
         by_cases hil : i < es.length
         ·exact absurd hil (by have h0 : ds.length = 0 := hdl; omega)
         ·have hii : i = es.length := by omega
          subst hii
          rw [Nat.sub_self] at hdb ⊢
          rw [List.drop_zero] at hdb
          simp only [List.take_zero, List.nil_append]
          have hc1 : c ≤ 1 := by
           have := dbl_carry es hed
           rw [hdb] at this
           exact this
          repeat' (first | (apply gL; first | (apply Wl.ev rfl rfl; exact Zev) | apply Wl.nil) | (apply lW; first | apply W.seq | (refine W.again (r + 1, 2 * m + c, res) ?_ ?_ Zm Zb) | apply W.region | apply W.blk | (refine Zbm ?_) | (refine Zv ?_ ?_ <;> (intro h; try exact Za))))
          ·refine ⟨by simp only; omega, ?_, ?_, ?_, ?_⟩
           ·simp only
            rw [Nat.pow_succ]; omega
           ·have := dbl_len es
            rw [hdb] at this
            simp only at this ⊢
            omega
           ·have := dbl_digit es
            rw [hdb] at this
            exact this
           ·rw [← heq, show 17 - r = (17 - (r + 1)) + 1 by omega]
            simp only [binS_succ, hdb]
          ·simp only; omega
        ·have h17 : r = 17 := by omega
         subst h17
         have hBm : m = binS 17 N ds := by rw [← heq]; exact (binS_zero _ _).symm
         repeat' (first | (apply gL; first | (apply Wl.ev rfl rfl; exact Zd0) | (refine lD 108 ?_; refine wl_call0 rfl rfl has108 rfl (fun w _ => raw02_ok _ w) ?_) | apply Wl.nil) | (apply lW; first | apply W.seq | apply W.region | apply W.skip | (refine Zbm ?_) | (refine Zbc ?_) | (refine Zv ?_ ?_ <;> (intro h; try exact Za)) | (refine Zdg ?_; intro w hs)))
         exact ret_eq hs Zeg
     ·obtain ⟨_, k0, hk0, hpk, h46, hwd, hpd, hcl⟩ := hsome
      rw [Nat.zero_add] at hpk
      subst hpk
      have hwh : wh02 (k0 : Int) t = t.take k0 := by simp [wh02]
      have hpa : pa02 (k0 : Int) t = t.drop (k0 + 1) := by simp [pa02]
      have hwl : (t.take k0).length ≤ 40 := by first | omega | (simp; omega)
      have hpl : (t.drop (k0 + 1)).length ≤ 40 := by first | (simp; done) | (simp; omega)
      have hnum : num02 false (k0 : Int) t = rawS (if false = true then -(((binS 17 (wholeS 1048576 (t.take k0)) (digs (t.drop (k0 + 1))) + 1) / 2 : Nat) : Int) else ((binS 17 (wholeS 1048576 (t.take k0)) (digs (t.drop (k0 + 1))) + 1) / 2 : Nat)) := by
       unfold num02
       rw [hwh, hpa]
      repeat' (first | (apply gL; first | (apply Wl.ev rfl rfl; exact Zc6) | apply Wl.nil) | (apply gQ; first | (apply Wq.ev rfl rfl; exact Zc6) | apply Wq.nil) | (apply lW; first | apply W.seq | (refine Zgf ?_) | apply W.region | apply W.block | apply W.skip | (refine Zbm ?_) | (refine Zbh ?_) | (refine Zv ?_ ?_ <;> (intro h; try exact Za)) | (refine Zdg ?_; intro w hs)))
      try (any_goals exact ret_eq hs Zet)
      ·refine W.loop (X := Nat) (fun i => [(4, .bool (decide ((x.toNat : Int) = 45))), (8, st (t.take k0)), (9, st (t.drop (k0 + 1))), (10, .int .i64 ((wholeS 1048576 ((t.take k0).take i) : Nat) : Int)), (72, .int .i64 ((t.take k0).length : Nat)), (73, .int .i64 (i : Nat))]) (fun _ => []) (fun i => i ≤ (t.take k0).length) (fun i => (t.take k0).length - i) 0 (Nat.zero_le _) Zm Zb ?_
       rename_i hcn
       intro i hi
       have hle := wholeS_le 1048576 ((t.take k0).take i)
       by_cases hlt : i < (t.take k0).length
       ·have hb : isD ((t.take k0).getD i 0) := hwd _ (getD_mem hlt)
        unfold isD at hb
        have e1 : (t.take k0).take (i + 1) = (t.take k0).take i ++ [(t.take k0).getD i 0] := take_snoc hlt
        have e2 : ((wholeS 1048576 ((t.take k0).take (i + 1)) : Nat) : Int) = min (10 * (wholeS 1048576 ((t.take k0).take i) : Int) + ((((t.take k0).getD i 0).toNat : Int) - 48)) 1048576 := by
         rw [e1, wholeS_snoc]; omega
        repeat' (first | (apply gL; first | (apply Wl.ev rfl rfl; exact Ze1) | apply Wl.nil) | (apply lW; first | apply W.seq | (refine W.again (i + 1) ?_ ?_ Zhp Zb) | apply W.region | apply W.block | apply W.blk | apply W.skip | (refine Zv ?_ ?_ <;> (intro h; try exact Za))))
        ·omega
        ·omega
       ·have hpe : (t.take k0).take i = t.take k0 := List.take_of_length_le Zga
        rw [hpe] at hle ⊢
        obtain ⟨N, hN⟩ : ∃ N, wholeS 1048576 (t.take k0) = N := ⟨_, rfl⟩
        rw [hN] at hnum hle ⊢
        obtain ⟨ds, hds⟩ : ∃ ds, digs (t.drop (k0 + 1)) = ds := ⟨_, rfl⟩
        have hback := digs_back hpd
        have hd := digs_lt hpd
        have hdl := digs_len (t.drop (k0 + 1))
        rw [hds] at hnum hback hd hdl
        have hdsl : ds.length ≤ 40 := by rw [hdl]; exact hpl
        rw [← hback]
        repeat' (first | (apply gL; first | (apply Wl.ev rfl rfl; exact Zev) | apply Wl.nil | (refine Zd4 ?_; intro b cap hcap)) | (apply lW; first | apply W.seq | apply W.region | apply W.block | (refine Zbm ?_) | (refine Zv ?_ ?_ <;> (intro h; try exact Za))))
        rw [digB_len] at hcap ⊢
        rw [digB_cells ds hd]
        obtain ⟨z, hz⟩ : ∃ z, cap - ds.length = z := ⟨_, rfl⟩
        rw [hz]
        refine W.loop (X := Nat × Nat × List Nat) (fun q => [(4, .bool (decide ((x.toNat : Int) = 45))), (12, .slice (some ⟨b, 0, none⟩) ds.length cap), (13, .int .i64 (q.2.1 : Nat)), (89, .int .i64 (q.1 : Nat))]) (fun q => [⟨b, true, .cells (digC q.2.2 z) 5 (cap, cap + 1)⟩])
         (fun q => q.1 ≤ 17 ∧ q.2.1 < 1048577 * 2 ^ q.1 ∧ q.2.2.length = ds.length ∧ (∀ d ∈ q.2.2, d < 10) ∧ binS (17 - q.1) q.2.1 q.2.2 = binS 17 N ds) (fun q => 17 - q.1) (0, N, ds) ⟨by omega, by simp; omega, rfl, hd, rfl⟩ Zm Zb ?_
        rintro ⟨r, m, es⟩ ⟨hr, hm, hel, hed, heq⟩
        simp only at hr hm hel hed heq ⊢
        have hm2 : m < 1048577 * 131072 := Nat.lt_of_lt_of_le hm (Nat.mul_le_mul_left _ (Nat.pow_le_pow_right Zga hr))
        by_cases hlt : r < 17
        ·repeat' (first | (apply gL; first | (apply Wl.ev rfl rfl; exact Zev) | apply Wl.nil) | (apply lW; first | apply W.seq | apply W.region | apply W.block | apply W.skip | (refine Zv ?_ ?_ <;> (intro h; try exact Za))))
         refine W.loop (X := Nat × Nat × List Nat) (fun q => [(4, .bool (decide ((x.toNat : Int) = 45))), (12, .slice (some ⟨b, 0, none⟩) ds.length cap), (13, .int .i64 (m : Nat)), (14, .int .u8 (q.2.1 : Nat)), (15, .int .i64 ((ds.length : Int) - 1 - (q.1 : Nat))), (89, .int .i64 (r : Nat))]) (fun q => [⟨b, true, .cells (digC (es.take (es.length - q.1) ++ q.2.2) z) 5 (cap, cap + 1)⟩])
          (fun q => q.1 ≤ es.length ∧ dbl (es.drop (es.length - q.1)) = (q.2.1, q.2.2)) (fun q => es.length - q.1) (0, 0, []) ⟨by omega, by simp [dbl]⟩ Zgv Zj3 ?_
         rintro ⟨i, c, res⟩ ⟨hi, hdb⟩
         simp only at hi hdb ⊢
         by_cases hil : i < es.length
         ·obtain ⟨k, hk⟩ : ∃ k, k = es.length - 1 - i := ⟨_, rfl⟩
          have hk1 : es.length - i = k + 1 := by omega
          have hkl : k < es.length := by omega
          rw [hk1] at hdb ⊢
          have hd9 : es[k] < 10 := hed _ (List.getElem_mem hkl)
          have hc1 : c ≤ 1 := by
           have := dbl_carry (es.drop (k + 1)) (fun d h => hed d (List.mem_of_mem_drop h))
           rw [hdb] at this
           exact this
          have hnext : dbl (es.drop k) = ((2 * es[k] + c) / 10, (2 * es[k] + c) % 10 :: res) := by
           rw [List.drop_eq_getElem_cons hkl]
           simp [dbl, hdb]
          have hsplit : es.take (k + 1) = es.take k ++ [es[k]] := List.take_succ_eq_append_getElem hkl
          have hcur : es.take (k + 1) ++ res = es.take k ++ es[k] :: res := by rw [hsplit, List.append_assoc]; rfl
          have htk : (es.take k).length = k := by simp; omega
          have hrl : res.length = es.length - (k + 1) := by
           have := dbl_len (es.drop (k + 1))
           rw [hdb] at this
           simpa using this
          have hcell : ∀ off, off = k → (digC (es.take (k + 1) ++ res) z)[off]? = some (.int .u8 ((48 + es[k] : Nat) : Int)) := fun off ho => by
           subst ho
           rw [digC_get _ _ _ Zjw]
           simp [hcur, htk]
          have hset : ∀ (off : Nat) (y : Int) (v : Nat), off = k → y = ((48 + v : Nat) : Int) → SubH [⟨b, true, .cells (digC (es.take k ++ v :: res) z) 5 (cap, cap + 1)⟩] [⟨b, true, .cells ((digC (es.take (k + 1) ++ res) z).setIfInBounds off (.int .u8 y)) 5 (cap, cap + 1)⟩] := fun off y v ho hy => by
           subst ho
           subst hy
           have := digC_set (es.take off) res es[off] v z
           rw [htk] at this
           rw [hcur, this]
           exact List.Sublist.refl _
          repeat' (first | (apply gL; first | (apply Wl.ev rfl rfl; exact Zmt) | (refine Zm4 ?_) | apply Wl.nil) | (apply lW; first | apply W.seq | apply W.region | apply W.block | apply W.blk | apply W.skip | (refine Zv ?_ ?_ <;> (intro h; try exact Za))))
          refine W.again (i + 1, (2 * es[k] + c) / 10, ((2 * es[k] + c) % 10) :: res) ?_ ?_ Zmg ?_
          ·refine ⟨by simp only; omega, ?_⟩
           simp only
           rw [show es.length - (i + 1) = k by omega, hnext]
          ·simp only; omega
          ·simp only
           rw [show es.length - (i + 1) = k by omega]
           exact hset _ _ _ Zga Zga
         ·have hii : i = es.length := by omega
          subst hii
          rw [Nat.sub_self] at hdb ⊢
          rw [List.drop_zero] at hdb
          simp only [List.take_zero, List.nil_append]
          have hc1 : c ≤ 1 := by
           have := dbl_carry es hed
           rw [hdb] at this
           exact this
          repeat' (first | (apply gL; first | (apply Wl.ev rfl rfl; exact Zev) | apply Wl.nil) | (apply lW; first | apply W.seq | (refine W.again (r + 1, 2 * m + c, res) ?_ ?_ Zm Zb) | apply W.region | apply W.blk | (refine Zbm ?_) | (refine Zv ?_ ?_ <;> (intro h; try exact Za))))
          ·refine ⟨by simp only; omega, ?_, ?_, ?_, ?_⟩
           ·simp only
            rw [Nat.pow_succ]; omega
           ·have := dbl_len es
            rw [hdb] at this
            simp only at this ⊢
            omega
           ·have := dbl_digit es
            rw [hdb] at this
            exact this
           ·rw [← heq, show 17 - r = (17 - (r + 1)) + 1 by omega]
            simp only [binS_succ, hdb]
          ·simp only; omega
        ·have h17 : r = 17 := by omega
         subst h17
         have hBm : m = binS 17 N ds := by rw [← heq]; exact (binS_zero _ _).symm
         repeat' (first | (apply gL; first | (apply Wl.ev rfl rfl; exact Zd0) | (refine lD 108 ?_; refine wl_call0 rfl rfl has108 rfl (fun w _ => raw02_ok _ w) ?_) | apply Wl.nil) | (apply lW; first | apply W.seq | apply W.region | apply W.skip | (refine Zbm ?_) | (refine Zbc ?_) | (refine Zv ?_ ?_ <;> (intro h; try exact Za)) | (refine Zdg ?_; intro w hs)))
         exact ret_eq hs Zeg
 ·repeat' (first | (apply gL; first | (apply Wl.ev rfl rfl; exact Zev) | apply Wl.nil) | (apply lW; first | apply W.seq | apply W.region | (refine Zv ?_ ?_ <;> (intro h; try exact Za)) | (refine Zdg ?_; intro w hs)))
  exact ret_eq hs (by unfold parse02S; rw [if_pos Zga])
end Go.Proofs.YtbinaeemcidicaaGreat
