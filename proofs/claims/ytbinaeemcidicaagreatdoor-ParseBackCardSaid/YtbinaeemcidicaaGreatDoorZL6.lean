/- Walks of the program's reader: numbers and tokens. No condition. -/
import Derived.Test.YtbinaeemcidicaaGreatDoorZL3
set_option maxRecDepth 100000
set_option maxHeartbeats 16000000
namespace Go.Proofs.YtbinaeemcidicaaGreatDoor
open Go.PB Go.RowKit
attribute [local irreducible] Go.Calls
abbrev tokC (q : Tq) (l : List UInt8) (i n : Int) : List Value := [.int .i64 q.k, st (l.take q.m), .int .i32 q.x, .int .i64 i, .int .i64 n]
abbrev tokR (q : Tq) (l : List UInt8) : Value := .tuple #[.agg (tokC q l 0 0).toArray, .int .i64 q.e]
theorem take_snoc' {l : List UInt8} {i : Nat} (h : i < l.length) : l.take (i + 1) = l.take i ++ [l.getD i 0] := by rw [List.take_succ_eq_append_getElem h]; simp [List.getD, h]
theorem by_ne {a : UInt8} {k : UInt8} (h : a ≠ k) : ¬(a.toNat : Int) = (k.toNat : Int) := fun e => h (UInt8.toNat_inj.1 Zf7)
theorem number_ok {s : List UInt8} {i ln r : Nat} (hl : s.length ≤ 1000000) (hi : i ≤ s.length) (w : World) (hr : w.heap[r]? = some (rdr s i ln)) :
  Calls Tryz.prog 49 #[ptr r] w (Give (tokR (numS (s.drop i)) (s.drop i)) w) := by
 refine give_of_W (vs := [ptr r]) Tryz.func49 rfl Tryz.ntmps49 (Nat.le_of_ble_eq_true rfl) (St.read hr []) ?_
 simp only [argL]
 obtain ⟨l, hls⟩ : ∃ l, s.drop i = l := ⟨_, rfl⟩
 have hll : l.length ≤ 1000000 := by rw [← hls]; simp; omega
 have pk : ∀ (n : Nat) (w : World), n ≤ 1000000 → w.heap[r]? = some (rdr s i ln) → Calls Tryz.prog 43 #[ptr r, .int .i64 (n : Int)] w (Give (by8 (l.getD n 0)) w) := fun n w hn h => by rw [← hls]; exact peek_ok hl hi n hn w h
 rw [hls]
 obtain ⟨N, hN⟩ : ∃ N, numN l = N := ⟨_, rfl⟩
 obtain ⟨X, hX⟩ : ∃ X, numS l = X := ⟨_, rfl⟩
 rw [hX]
 have hNl := numN_le l
 rw [hN] at hNl
 unfold numS at hX
 rw [hN] at hX
 have hN0 := hN
 unfold numN at hN
 obtain ⟨D, hD⟩ : ∃ D, runN dgB l = D := ⟨_, rfl⟩
 have hDl := runN_le dgB l
 have hall := runN_all dgB l
 rw [hD] at hN hDl hall
 obtain ⟨T, hT⟩ : ∃ T, l.take N = T := ⟨_, rfl⟩
 have hTl : T.length = N := by rw [← hT]; simp; omega
 rw [hT] at hX
 obtain ⟨c, hc⟩ : ∃ c, l.getD N 0 = c := ⟨_, rfl⟩
 rw [hc] at hX
 have pkN : ∀ (x : Int) (w : World), x = N → w.heap[r]? = some (rdr s i ln) → Calls Tryz.prog 43 #[ptr r, .int .i64 x] w (Give (by8 c) w) := fun x w hx h => by subst hx; rw [← hc]; exact pk N w Zf7 h
 by_cases hp : l.getD D 0 = 46
 ·rw [if_pos hp] at hN
  have hlt : D < l.length := getD_len (by rw [hp]; decide)
  have hq : ((l.getD D 0).toNat : Int) = 46 := by rw [hp]; rfl
  obtain ⟨E, hE⟩ : ∃ E, runN dgB (l.drop (D + 1)) = E := ⟨_, rfl⟩
  rw [hE] at hN
  obtain ⟨R, hR⟩ : ∃ R, parseS T = R := ⟨_, rfl⟩
  have hP : numP l := by unfold numP; rw [hD]; exact hp
  rw [hR, if_pos hP, if_neg (show ¬(¬numP l ∧ 1 < N ∧ l.getD 0 0 = 48) from fun h => h.1 hP)] at hX
  have hrE : ∀ w, Calls Tryz.prog 41 #[st (l.drop (D + 1)), fnv 48] w (Give (.int .i64 (E : Int)) w) := fun w => Give.to (run_ok dgB _ has48 digit_ok (l.drop (D + 1)) Zja w) (congrArg (fun k : Nat => Value.int .i64 (k : Int)) hE)
  by_cases hc2 : leB c = true ∨ c = 46
  ·rw [if_pos hc2] at hX
   have hcn : ¬leB c = true → (c.toNat : Int) = 46 := fun h => by rw [hc2.resolve_left h]; rfl
   repeat' (first | (apply gL; first | (apply Wl.ev rfl rfl; exact Zbi) | (refine lD 41 ?_; refine wl_call0 rfl rfl has41 rfl (fun w _ => Give.to (run_ok dgB _ has48 digit_ok l Zf7 w) (congrArg (fun k : Nat => Value.int .i64 (k : Int)) hD)) ?_) | (refine lD 43 ?_; refine wl_call0 rfl rfl has43 rfl Zkw ?_) | (refine lD 46 ?_; refine wl_call0 rfl rfl has46 rfl (fun w _ => letter_ok c w) ?_) | (refine lD 41 ?_; refine wl_call0 rfl rfl has41 rfl (fun w _ => hrE w) ?_) | apply Wl.nil | (refine Zbr ?_) | (refine Zbd ?_; intro b) | (refine Zgb ?_) | ((fail_if_success (apply Wl.chk rfl)); refine Wl.split rfl rfl ?_ ?_ <;> (intro h; try exact Zg)) | ((fail_if_success (apply Wl.chk rfl)); refine Wl.splitB rfl rfl ?_ ?_ <;> (intro h; try exact Zca))) | (apply gQ; first | (apply Wq.ev rfl rfl; exact Zbi) | apply Wq.nil) | (apply lW; first | apply W.seq | (refine Zgf ?_) | apply W.region | apply W.block | apply W.skip | (refine Zbk ?_) | (refine Zz ?_ ?_ <;> (intro h; try exact Zg)) | (refine Zgp ?_; intro w hs)))
   all_goals first
    | exact ret_eq hs Zfu
    | (exfalso; rename_i h1 h2; have := hcn (by simp [h1]); omega)
    | exact Zdq
  ·rw [if_neg hc2] at hX
   have hcn : leB c = false := by simpa using fun h => hc2 (.inl h)
   have hcm : ¬(c.toNat : Int) = 46 := by_ne (k := 46) fun h => hc2 (.inr h)
   have hpar : ∀ w, Calls Tryz.prog 86 #[st T] w (Give (res2i R) w) := fun w => by rw [← hR]; exact parse_ok T Zf7 w
   repeat' (first | (apply gL; first | (apply Wl.ev rfl rfl; exact Zbi) | (refine lD 41 ?_; refine wl_call0 rfl rfl has41 rfl (fun w _ => Give.to (run_ok dgB _ has48 digit_ok l Zf7 w) (congrArg (fun k : Nat => Value.int .i64 (k : Int)) hD)) ?_) | (refine lD 43 ?_; refine wl_call0 rfl rfl has43 rfl Zkw ?_) | (refine lD 46 ?_; refine wl_call0 rfl rfl has46 rfl (fun w _ => letter_ok c w) ?_) | (refine lD 41 ?_; refine wl_call0 rfl rfl has41 rfl (fun w _ => hrE w) ?_) | (refine lD 86 ?_; refine wl_call0 rfl rfl has86 rfl (fun w _ => hpar w) ?_) | apply Wl.nil | (refine Zbr ?_) | (refine Zbd ?_; intro b) | (refine Zgb ?_) | ((fail_if_success (apply Wl.chk rfl)); refine Wl.split rfl rfl ?_ ?_ <;> (intro h; try exact Zg)) | ((fail_if_success (apply Wl.chk rfl)); refine Wl.splitB rfl rfl ?_ ?_ <;> (intro h; try exact Zca))) | (apply gQ; first | (apply Wq.ev rfl rfl; exact Zbi) | apply Wq.nil) | (apply lW; first | apply W.seq | (refine Zgf ?_) | apply W.region | apply W.block | (refine Zbg ?_) | (refine Zz ?_ ?_ <;> (intro h; try exact Zg)) | (refine Zgp ?_; intro w hs)))
   all_goals first
    | exact ret_eq hs (by rw [← hX, ← hT]; rfl)
    | exact Zdq
 ·rw [if_neg hp] at hN
  have hNP : ¬numP l := by unfold numP; rw [hD]; exact hp
  rw [if_neg hNP] at hX
  subst hN
  have hq : ¬((l.getD D 0).toNat : Int) = 46 := by_ne (k := 46) hp
  have hcd : c = l.getD D 0 := hc.symm
  have hcm : ¬(c.toNat : Int) = 46 := by rw [hcd]; exact hq
  have hc46 : c ≠ 46 := by rw [hcd]; exact hp
  by_cases hc2 : leB c = true
  ·rw [if_pos (.inl hc2)] at hX
   repeat' (first | (apply gL; first | (apply Wl.ev rfl rfl; exact Zcv) | (refine lD 41 ?_; refine wl_call0 rfl rfl has41 rfl (fun w _ => Give.to (run_ok dgB _ has48 digit_ok l Zf7 w) (congrArg (fun k : Nat => Value.int .i64 (k : Int)) hD)) ?_) | (refine lD 43 ?_; refine wl_call0 rfl rfl has43 rfl Zkw ?_) | (refine lD 46 ?_; refine wl_call0 rfl rfl has46 rfl (fun w _ => letter_ok c w) ?_) | apply Wl.nil | (refine Zbr ?_) | (refine Zbd ?_; intro b) | (refine Zgb ?_) | ((fail_if_success (apply Wl.chk rfl)); refine Wl.split rfl rfl ?_ ?_ <;> (intro h; try exact Zg)) | ((fail_if_success (apply Wl.chk rfl)); refine Wl.splitB rfl rfl ?_ ?_ <;> (intro h; try exact Zca))) | (apply gQ; first | (apply Wq.ev rfl rfl; exact Zcv) | apply Wq.nil) | (apply lW; first | apply W.seq | (refine Zgf ?_) | apply W.region | apply W.block | apply W.skip | (refine Zbk ?_) | (refine Zbg ?_) | (refine Zz ?_ ?_ <;> (intro h; try exact Zg)) | (refine Zgp ?_; intro w hs)))
   all_goals first
    | exact ret_eq hs Zfu
    | exact Zdq
  ·rw [if_neg (fun h => h.elim hc2 hc46)] at hX
   have hcn : leB c = false := by simpa using hc2
   have hT0 : 1 < D → T.getD 0 0 = l.getD 0 0 := fun h => by
    rw [← hT]
    cases l with
    | nil => simp
    | cons a l => cases D with
     | zero => omega
     | succ D => simp
   by_cases hz : 1 < D ∧ l.getD 0 0 = 48
   ·rw [if_pos ⟨hNP, hz⟩] at hX
    have hz1 := hz.1
    have hz2 : ((T.getD 0 0).toNat : Int) = 48 := by rw [hT0 hz1, hz.2]; rfl
    repeat' (first | (apply gL; first | (apply Wl.ev rfl rfl; exact Zbh) | (refine lD 41 ?_; refine wl_call0 rfl rfl has41 rfl (fun w _ => Give.to (run_ok dgB _ has48 digit_ok l Zf7 w) (congrArg (fun k : Nat => Value.int .i64 (k : Int)) hD)) ?_) | (refine lD 43 ?_; refine wl_call0 rfl rfl has43 rfl Zkw ?_) | (refine lD 46 ?_; refine wl_call0 rfl rfl has46 rfl (fun w _ => letter_ok c w) ?_) | apply Wl.nil | (refine Zbr ?_) | (refine Zbd ?_; intro b) | (refine Zgb ?_) | ((fail_if_success (apply Wl.chk rfl)); refine Wl.split rfl rfl ?_ ?_ <;> (intro h; try exact Zg)) | ((fail_if_success (apply Wl.chk rfl)); refine Wl.splitB rfl rfl ?_ ?_ <;> (intro h; try exact Zca))) | (apply gQ; first | (apply Wq.ev rfl rfl; exact Zbh) | apply Wq.nil) | (apply lW; first | apply W.seq | (refine Zgf ?_) | apply W.region | apply W.block | apply W.skip | (refine Zbg ?_) | (refine Zz ?_ ?_ <;> (intro h; try exact Zg)) | (refine Zgp ?_; intro w hs)))
    all_goals first
     | exact ret_eq hs Zfu
     | exact Zy
     | exact Zdq
   ·rw [if_neg (fun h => hz h.2)] at hX
    have hz2 : ¬((D : Int) > 1 ∧ ((T.getD 0 0).toNat : Int) = 48) := fun h => hz ⟨by omega, by rw [← hT0 Zf7]; exact UInt8.toNat_inj.1 (by have := h.2; show _ = 48; omega)⟩
    have hdig : ∀ j, j < T.length → 48 ≤ (T.getD j 0).toNat ∧ (T.getD j 0).toNat ≤ 57 := fun j hj => by
     have : T.getD j 0 ∈ T := by simp [List.getD, hj]
     exact dgB_iff.1 (hall _ (by rw [hT]; exact this))
    repeat' (first | (apply gL; first | (apply Wl.ev rfl rfl; exact Zbh) | (refine lD 41 ?_; refine wl_call0 rfl rfl has41 rfl (fun w _ => Give.to (run_ok dgB _ has48 digit_ok l Zf7 w) (congrArg (fun k : Nat => Value.int .i64 (k : Int)) hD)) ?_) | (refine lD 43 ?_; refine wl_call0 rfl rfl has43 rfl Zkw ?_) | (refine lD 46 ?_; refine wl_call0 rfl rfl has46 rfl (fun w _ => letter_ok c w) ?_) | (refine Zhl ?_; intro rb) | apply Wl.nil | (refine Zbr ?_) | (refine Zbd ?_; intro b) | ((fail_if_success (apply Wl.chk rfl)); refine Wl.split rfl rfl ?_ ?_ <;> (intro h; try exact Zg)) | ((fail_if_success (apply Wl.chk rfl)); refine Wl.splitB rfl rfl ?_ ?_ <;> (intro h; try exact Zca))) | (apply gQ; first | (apply Wq.ev rfl rfl; exact Zbh) | apply Wq.nil) | (apply lW; first | apply W.seq | (refine Zgf ?_) | apply W.region | apply W.block | apply W.blk | apply W.skip | (refine Zbg ?_) | (refine Zz ?_ ?_ <;> (intro h; try exact Zg))))
    all_goals
     refine W.loop (X := Nat) (fun j => [(2, ptr b), (7, st T), (11, .int .i64 (wholeS 32768 (T.take j) : Nat)), (81, ptr rb)]) (fun j => [⟨rb, true, sobj T j⟩, ⟨b, true, row [.int .i64 0, .string ⟨#[]⟩, .int .i32 0, .int .i64 0, .int .i64 0] 67⟩])
      (fun j => j ≤ T.length) (fun j => T.length - j) 0 (Nat.zero_le _) Zn Ze ?_
     intro j hj
     by_cases hlt : j < T.length
     ·have hd := hdig j hlt
      have hw := wholeS_le 32768 (T.take j)
      obtain ⟨V, hV⟩ : ∃ V, wholeS 32768 (T.take j) = V := ⟨_, rfl⟩
      have hV2 : wholeS 32768 (T.take (j + 1)) = min (V * 10 + ((T.getD j 0).toNat - 48)) 32768 := by rw [take_snoc' hlt, wholeS_snoc, hV]
      rw [hV] at hw ⊢
      repeat' (first | (apply gL; first | (apply Wl.ev rfl rfl; (focus (first | (apply gCal; first | exact (ev_min rfl rfl).to (show _ = Value.int .i64 ((wholeS 32768 (T.take (j + 1)) : Nat) : Int) from congrArg (Value.int .i64) (by rw [hV2]; omega))) | exact Zev))) | (refine wl_nextStr' rfl rfl rfl hlt (decode_low hlt Zf7) Zf ?_) | apply Wl.nil) | (apply lW; first | apply W.seq | (refine W.again (j + 1) ?_ ?_ Zn Ze) | apply W.region | apply W.block | apply W.blk | apply W.skip | (refine Zbk ?_)))
      ·exact Nat.succ_le_of_lt hlt
      ·omega
     ·obtain rfl : j = T.length := by omega
      rw [List.take_length]
      have hw := wholeS_le 32768 T
      obtain ⟨V, hV⟩ : ∃ V, wholeS 32768 T = V := ⟨_, rfl⟩
      rw [hV] at hw hX ⊢
      by_cases hbig : 32767 < V
      ·rw [if_pos hbig] at hX
       repeat' (first | (apply gL; first | (apply Wl.ev rfl rfl; exact Zev) | apply Wl.nil | (refine Zgb ?_)) | (apply lW; first | apply W.seq | apply W.region | (refine Zcm ?_) | (refine Zbg ?_) | (refine Zz ?_ ?_ <;> (intro h; try exact Zg)) | (refine Zgp ?_; intro w hs)))
       exact ret_eq hs Zfu
      ·rw [if_neg hbig] at hX
       repeat' (first | (apply gL; first | (apply Wl.ev rfl rfl; exact Zev) | (refine lD 87 ?_; refine wl_call0 rfl rfl has87 rfl (fun w _ => of_ok (V : Int) w) ?_) | apply Wl.nil | (refine Zgb ?_)) | (apply lW; first | apply W.seq | apply W.region | apply W.skip | (refine Zcm ?_) | (refine Zbg ?_) | (refine Zz ?_ ?_ <;> (intro h; try exact Zg)) | (refine Zgp ?_; intro w hs)))
       exact ret_eq hs (by rw [← hX, ← hT])
end Go.Proofs.YtbinaeemcidicaaGreatDoor
namespace Go.Proofs.YtbinaeemcidicaaGreatDoor
open Go.PB Go.RowKit
attribute [local irreducible] Go.Calls
theorem drop_take' {α : Type} (i n : Nat) (l : List α) : (l.take (i + n)).drop i = (l.drop i).take n := by rw [List.drop_take]; congr 1; omega
theorem token_ok {s : List UInt8} {i ln r : Nat} (hl : s.length ≤ 1000000) (hi : i ≤ s.length) (w : World) (hr : w.heap[r]? = some (rdr s i ln)) :
  Calls Tryz.prog 23 #[ptr r] w (Give (tokR (tokS (s.drop i)) (s.drop i)) w) := by
 refine give_of_W (vs := [ptr r]) Tryz.func23 rfl Tryz.ntmps23 (Nat.le_of_ble_eq_true rfl) (St.read hr []) ?_
 simp only [argL]
 obtain ⟨l, hls⟩ : ∃ l, s.drop i = l := ⟨_, rfl⟩
 have hll : l.length + i = s.length := by rw [← hls]; simp; omega
 have p0 : ∀ w : World, w.heap[r]? = some (rdr s i ln) → Calls Tryz.prog 43 #[ptr r, .int .i64 (0 : Int)] w (Give (by8 (l.getD 0 0)) w) := fun w h => by rw [← hls]; exact peek_ok hl hi 0 Zf7 w h
 have p1 : ∀ w : World, w.heap[r]? = some (rdr s i ln) → Calls Tryz.prog 43 #[ptr r, .int .i64 (1 : Int)] w (Give (by8 (l.getD 1 0)) w) := fun w h => by rw [← hls]; exact peek_ok hl hi 1 Zf7 w h
 have nu : ∀ w : World, w.heap[r]? = some (rdr s i ln) → Calls Tryz.prog 49 #[ptr r] w (Give (tokR (numS l) l) w) := fun w h => by rw [← hls]; exact number_ok hl hi w h
 have si : ∀ w : World, w.heap[r]? = some (rdr s i ln) → Calls Tryz.prog 50 #[ptr r] w (Give (.int .i64 (signN (l.getD 0 0) (l.getD 1 0) : Nat)) w) := fun w h => by rw [← hls]; exact sign_ok hl hi w h
 have hm := tok_m l
 rw [hls]
 obtain ⟨X, hX⟩ : ∃ X, tokS l = X := ⟨_, rfl⟩
 rw [hX] at hm ⊢
 unfold tokS at hX
 obtain ⟨c, hc⟩ : ∃ c, l.getD 0 0 = c := ⟨_, rfl⟩
 obtain ⟨d, hd⟩ : ∃ d, l.getD 1 0 = d := ⟨_, rfl⟩
 rw [hc] at p0 si hX
 rw [hd] at p1 si hX
 by_cases h1 : leB c = true
 ·rw [if_pos h1] at hX
  obtain ⟨N, hN⟩ : ∃ N, runN woB l = N := ⟨_, rfl⟩
  have hNl := runN_le woB l
  rw [hN] at hX hNl
  have ru : ∀ w, Calls Tryz.prog 41 #[st l, fnv 47] w (Give (.int .i64 (N : Int)) w) := fun w => Give.to (run_ok woB _ has47 word_ok l Zf7 w) (congrArg (fun k : Nat => Value.int .i64 (k : Int)) hN)
  repeat' (first | (apply gL; first | (apply Wl.ev rfl rfl; exact Zc9) | (refine lD 43 ?_; first | (refine Zgk ?_) | (refine Zgl ?_)) | (refine lD 46 ?_; refine wl_call0 rfl rfl has46 rfl (fun w _ => letter_ok c w) ?_) | apply Wl.nil | (refine Zbd ?_; intro b) | (refine Zgb ?_)) | (apply gQ; first | (apply Wq.ev rfl rfl; exact Zc9) | ((show Wq _ _ (Qt _ _ _ _) _ _ _ _ [] _ _); apply Wq.tail) | (refine qD 41 ?_; refine Wq.call0 rfl rfl has41 rfl (fun w _ => ru w) ?_) | apply Wq.nil) | (apply lW; first | apply W.seq | ((show W _ _ _ _ _ _ (.inl (.region 6 _ true) :: _) _ _); refine W.regionT 16 mixed Zj rfl rfl ?_) | ((show W _ _ _ _ _ _ (.inl (.region 13 _ true) :: _) _ _); refine W.regionT 16 mixed Zj rfl rfl ?_) | (refine Zgf ?_) | apply W.region | apply W.block | apply W.skip | (refine Zz ?_ ?_ <;> (intro h; try exact Zg)) | (refine Zfs ?_ ?_ <;> (intro h; try exact Zca)) | (refine Zgp ?_; intro w hs)))
  all_goals first
   | exact ret_eq hs (by rw [← hX, if_pos Zf7]; rfl)
   | exact ret_eq hs (by rw [← hX, if_neg Zf7])
   | exact Zdq
 ·rw [if_neg h1] at hX
  have h1' : leB c = false := by simpa using h1
  by_cases h2 : dgB c = true ∨ (c = 46 ∧ dgB d = true)
  ·rw [if_pos h2] at hX
   rw [hX] at nu
   have hcn : ¬dgB c = true → (c.toNat : Int) = 46 ∧ dgB d = true := fun h => ⟨by rw [(h2.resolve_left h).1]; rfl, (h2.resolve_left h).2⟩
   repeat' (first | (apply gL; first | (apply Wl.ev rfl rfl; exact Zev) | (refine lD 43 ?_; first | (refine Zgk ?_) | (refine Zgl ?_)) | (refine lD 46 ?_; refine wl_call0 rfl rfl has46 rfl (fun w _ => letter_ok c w) ?_) | (refine lD 48 ?_; refine wl_call0 rfl rfl has48 rfl (fun w _ => digit_ok c w) ?_) | (refine lD 48 ?_; refine wl_call0 rfl rfl has48 rfl (fun w _ => digit_ok d w) ?_) | (refine lD 49 ?_; refine wl_call0 rfl rfl has49 rfl (fun w hs => nu w (hs.get Zd)) ?_) | apply Wl.nil | (refine Zbd ?_; intro b) | (refine Zgb ?_) | ((fail_if_success (apply Wl.chk rfl)); refine Wl.split rfl rfl ?_ ?_ <;> (intro h; try exact Zg))) | (apply gQ; first | (apply Wq.ev rfl rfl; exact Zev)) | (apply lW; first | apply W.seq | apply W.region | apply W.block | apply W.skip | (refine Zfs ?_ ?_ <;> (intro h; try exact Zca)) | (refine Zgp ?_; intro w hs)))
   all_goals first
    | exact ret_eq hs rfl
    | (exfalso; have := hcn (by simp_all); simp_all; done)
    | exact Zdq
  ·rw [if_neg h2] at hX
   have h3 : dgB c = false := by simpa using fun h => h2 (.inl h)
   have h4 : dgB d = true → ¬(c.toNat : Int) = 46 := fun h e => h2 (.inr ⟨UInt8.toNat_inj.1 (by show _ = 46; omega), h⟩)
   obtain ⟨N, hN⟩ : ∃ N, signN c d = N := ⟨_, rfl⟩
   rw [hN] at hX si
   by_cases h5 : N = 0
   ·rw [if_pos h5] at hX
    subst h5
    repeat' (first | (apply gL; first | (apply Wl.ev rfl rfl; exact Zev) | (refine lD 43 ?_; first | (refine Zgk ?_) | (refine Zgl ?_)) | (refine lD 46 ?_; refine wl_call0 rfl rfl has46 rfl (fun w _ => letter_ok c w) ?_) | (refine lD 48 ?_; refine wl_call0 rfl rfl has48 rfl (fun w _ => digit_ok c w) ?_) | (refine lD 48 ?_; refine wl_call0 rfl rfl has48 rfl (fun w _ => digit_ok d w) ?_) | (refine lD 50 ?_; refine wl_call0 rfl rfl has50 rfl (fun w hs => si w (hs.get Zd)) ?_) | apply Wl.nil | (refine Zbr ?_) | (refine Zbd ?_; intro b) | (refine Zgb ?_) | ((fail_if_success (apply Wl.chk rfl)); refine Wl.split rfl rfl ?_ ?_ <;> (intro h; try exact Zg))) | (apply gQ; first | (apply Wq.ev rfl rfl; exact Zev)) | (apply lW; first | apply W.seq | apply W.region | apply W.block | apply W.blk | apply W.skip | (refine Zbk ?_) | (refine Zbg ?_) | (refine Zfs ?_ ?_ <;> (intro h; try exact Zca)) | (refine Zgp ?_; intro w hs)))
    all_goals first
     | exact ret_eq hs Zfu
     | exact ret_eq hs (by rw [← hX])
     | exact Zdq
   ·rw [if_neg h5] at hX
    rw [← hX] at hm
    simp only at hm
    repeat' (first | (apply gL; first | (apply Wl.ev rfl rfl; exact Zdy) | (refine lD 43 ?_; first | (refine Zgk ?_) | (refine Zgl ?_)) | (refine lD 46 ?_; refine wl_call0 rfl rfl has46 rfl (fun w _ => letter_ok c w) ?_) | (refine lD 48 ?_; refine wl_call0 rfl rfl has48 rfl (fun w _ => digit_ok c w) ?_) | (refine lD 48 ?_; refine wl_call0 rfl rfl has48 rfl (fun w _ => digit_ok d w) ?_) | (refine lD 50 ?_; refine wl_call0 rfl rfl has50 rfl (fun w hs => si w (hs.get Zd)) ?_) | apply Wl.nil | (refine Zbr ?_) | (refine Zbd ?_; intro b) | (refine Zgb ?_) | ((fail_if_success (apply Wl.chk rfl)); refine Wl.split rfl rfl ?_ ?_ <;> (intro h; try exact Zg))) | (apply gQ; first | (apply Wq.ev rfl rfl; exact Zdy) | ((show Wq _ _ (Qt _ _ _ _) _ _ _ _ [] _ _); apply Wq.tail)) | (apply lW; first | apply W.seq | ((show W _ _ _ _ _ _ (.inl (.region 6 _ true) :: _) _ _); refine W.regionT 16 mixed Zj rfl rfl ?_) | ((show W _ _ _ _ _ _ (.inl (.region 13 _ true) :: _) _ _); refine W.regionT 16 mixed Zj rfl rfl ?_) | apply W.region | apply W.block | apply W.blk | apply W.skip | (refine Zbg ?_) | (refine Zz ?_ ?_ <;> (intro h; try exact Zg)) | (refine Zfs ?_ ?_ <;> (intro h; try exact Zca)) | (refine Zgp ?_; intro w hs)))
    all_goals first
     | exact ret_eq hs Zfu
     | exact ret_eq hs (by rw [← hX])
     | exact Zdq
end Go.Proofs.YtbinaeemcidicaaGreatDoor
namespace Go.Proofs.YtbinaeemcidicaaGreatDoor
open Go.PB Go.RowKit
attribute [local irreducible] Go.Calls
def Mx (w : World) : Prop := ∃ m, w.cell? ⟨0, 0, none⟩ = some (.int .i64 m)
theorem Mx.off {w : World} (h : Mx w) {s : List UInt8} {i ln r : Nat} (hr : w.heap[r]? = some (rdr s i ln)) : r ≠ 0 := by
 rintro rfl
 obtain ⟨m, hm⟩ := h
 rw [cell_row hr] at hm
 cases hm
theorem Mx.st {M : List Nat} {w0 w : World} {H : List Ent} (h : Mx w0) (hs : St M w0 w H) (h0 : 0 ∉ M) : Mx w := by
 obtain ⟨m, hm⟩ := h
 refine ⟨m, ?_⟩
 have hl : 0 < w0.heap.size := by
  refine Nat.pos_of_ne_zero fun e => ?_
  have : w0.heap = #[] := Array.eq_empty_of_size_eq_zero e
  simp [World.cell?, this] at hm
 have := hs.frame 0 hl h0
 unfold World.cell? at hm ⊢
 rw [this]
 exact hm
theorem nl_add (s : List UInt8) (i n : Nat) : nlN (s.take i) + nlN ((s.take (i + n)).drop i) = nlN (s.take (i + n)) := by
 unfold nlN
 rw [← List.count_append]
 congr 1
 have : s.take i = (s.take (i + n)).take i := by rw [List.take_take]; congr 1; omega
 rw [this, List.take_append_drop]
theorem index_line : ∀ l : List UInt8, (Lib.indexByte l 10 < 0 → lineN l = l.length) ∧ (¬Lib.indexByte l 10 < 0 → Lib.indexByte l 10 = (lineN l : Nat))
 | [] => by simp [Lib.indexByte, lineN, runN]
 | c :: l => by
  have ih := index_line l
  have hle := indexByte_le l 10
  unfold lineN at ih ⊢
  simp only [Lib.indexByte, runN]
  by_cases hc : c = 10
  ·subst hc
   simp
  ·have h1 : (c.toNat == 10) = false := by
    rw [beq_eq_false_iff_ne]
    exact fun h => hc (UInt8.toNat_inj.1 h)
   simp only [h1, Bool.not_false, if_true, List.length_cons]
   have h2 : (c == 10) = false := by simpa using hc
   simp only [h2]
   split
   ·rename_i h; simp at h
   ·split
    ·rename_i h3
     simp at h3
     have := ih.1 Zf7
     exact ⟨fun _ => by omega, fun h => absurd Zf7 h⟩
    ·rename_i h3
     simp at h3
     have := ih.2 Zf7
     exact ⟨fun h => by omega, fun _ => by omega⟩
theorem index_ok {s : List UInt8} (hl : s.length ≤ 1000000) (w : World) (hm : Mx w) : Calls Tryz.prog 45 #[st s, st [42, 47]] w (Give (.int .i64 (Lib.index s [42, 47])) w) := by
 obtain ⟨m, hm⟩ := hm
 have h := Tryz.strings_Index ⟨s.toArray⟩ ⟨[42, 47].toArray⟩ m w (by rw [bytes_size]; omega) hm
 refine h.mono fun e w' ⟨h1, h2⟩ => ?_
 subst h2
 exact ⟨h1, Turn.refl _⟩
theorem blanks_ok {s : List UInt8} {i r : Nat} (hl : s.length ≤ 1000000) (hi : i ≤ s.length) (w : World) (hm : Mx w) (hr : w.heap[r]? = some (rdr s i (nlN (s.take i)))) :
  Calls Tryz.prog 22 #[ptr r] w (GiveT (.bool (skipS (s.drop i)).2) r (rdr s (i + (skipS (s.drop i)).1) (nlN (s.take (i + (skipS (s.drop i)).1)))) w) := by
 refine giveT_of_W (vs := [ptr r]) Tryz.func22 rfl Tryz.ntmps22 (Nat.le_of_ble_eq_true rfl) (St.turnable hr) ?_
 simp only [argL]
 have hoff : (0 : Nat) ∉ [r] := by simpa using (hm.off hr).symm
 obtain ⟨R, hR⟩ : ∃ R, skipS (s.drop i) = R := ⟨_, rfl⟩
 rw [hR]
 repeat' (first | (apply gL; first | (apply Wl.ev rfl rfl; exact Zev) | apply Wl.nil) | (apply lW; first | apply W.seq | (refine W.again0 (X := Nat) (fun _ => [(0, ptr r)]) (fun j => [⟨r, true, rdr s j (nlN (s.take j))⟩]) (fun j => i ≤ j ∧ j ≤ s.length ∧ up (j - i) (skipS (s.drop j)) = R) (fun j => s.length - j) i ⟨Nat.le_refl _, hi, by rw [Nat.sub_self, up_zero]; exact hR⟩ Zn Ze ?_) | apply W.region))
 intro j ⟨hij, hjl, hup⟩
 obtain ⟨K, hK⟩ : ∃ K, runN blB (s.drop j) = K := ⟨_, rfl⟩
 have hKl := runN_le blB (s.drop j)
 have hstop := runN_stop blB (s.drop j)
 rw [skip_run (s.drop j), up_up, List.drop_drop] at hup
 rw [hK] at hup hKl hstop
 rw [List.length_drop] at hKl hstop
 obtain ⟨l, hls⟩ : ∃ l, s.drop (j + K) = l := ⟨_, rfl⟩
 have hll : l.length + (j + K) = s.length := by rw [← hls]; simp; omega
 rw [hls] at hup
 have hstop : 0 < l.length → blB (l.getD 0 0) = false := fun h => by
  have := hstop Zf7
  rw [← hls]
  simpa [List.getD, List.getElem?_drop] using this
 have ru : ∀ w, Calls Tryz.prog 41 #[st (s.drop j), fnv 42] w (Give (.int .i64 (K : Int)) w) := fun w => Give.to (run_ok blB _ has42 blank_ok (s.drop j) Zja w) (congrArg (fun k : Nat => Value.int .i64 (k : Int)) hK)
 have sk : ∀ (a n : Nat) (w : World), a + n ≤ s.length → w.heap[r]? = some (rdr s a (nlN (s.take a))) → Calls Tryz.prog 24 #[ptr r, .int .i64 (n : Int)] w (GiveT (.tuple #[]) r (rdr s (a + n) (nlN (s.take (a + n)))) w) := fun a n w hax h => by
  have hn : nlN (s.take a) ≤ 1000000 := by
   have : nlN (s.take a) ≤ (s.take a).length := List.count_le_length
   simp only [List.length_take] at this
   omega
  have := skipm_ok hl hn n hax w h
  rwa [nl_add] at this
 have skK : ∀ (w : World), w.heap[r]? = some (rdr s j (nlN (s.take j))) → Calls Tryz.prog 24 #[ptr r, .int .i64 (K : Int)] w (GiveT (.tuple #[]) r (rdr s (j + K) (nlN (s.take (j + K)))) w) := fun w h => sk j K w Zf7 h
 have p0 : ∀ w : World, w.heap[r]? = some (rdr s (j + K) (nlN (s.take (j + K)))) → Calls Tryz.prog 43 #[ptr r, .int .i64 (0 : Int)] w (Give (by8 (l.getD 0 0)) w) := fun w h => by rw [← hls]; exact peek_ok hl Zf7 0 Zf7 w h
 have p1 : ∀ w : World, w.heap[r]? = some (rdr s (j + K) (nlN (s.take (j + K)))) → Calls Tryz.prog 43 #[ptr r, .int .i64 (1 : Int)] w (Give (by8 (l.getD 1 0)) w) := fun w h => by rw [← hls]; exact peek_ok hl Zf7 1 Zf7 w h
 obtain ⟨c, hc⟩ : ∃ c, l.getD 0 0 = c := ⟨_, rfl⟩
 obtain ⟨d, hd⟩ : ∃ d, l.getD 1 0 = d := ⟨_, rfl⟩
 rw [hc] at p0 hstop
 rw [hd] at p1
 by_cases h47 : c = 47
 ·obtain ⟨t, rfl⟩ : ∃ t, l = 47 :: t := by
   cases l with
   | nil => rw [← hc] at h47; cases h47
   | cons a t => exact ⟨t, by simp at hc; rw [hc, h47]⟩
  have hcn : (c.toNat : Int) = 47 := by rw [h47]; rfl
  have hth : d = 47 ∨ d = 42 → t.head? = some d := fun h => by
   cases t with
   | nil => rcases h with rfl | rfl <;> simp at hd
   | cons e t => simp at hd; simp [hd]
  by_cases hd1 : d = 47
  ·have hdn : (d.toNat : Int) = 47 := by rw [hd1]; rfl
   have hsk := skip_line (t := t) (by rw [hth (.inl hd1), hd1])
   have hpos := lineN_pos (t := t) (c := 47) rfl
   have hil := index_line (47 :: t)
   have hLl : lineN (47 :: t) ≤ (47 :: t).length := runN_le _ _
   obtain ⟨I, hI⟩ : ∃ I, Lib.indexByte (47 :: t) 10 = I := ⟨_, rfl⟩
   obtain ⟨N, hN⟩ : ∃ N, lineN (47 :: t) = N := ⟨_, rfl⟩
   obtain ⟨l, hl'⟩ : ∃ l, 47 :: t = l := ⟨_, rfl⟩
   rw [hI, hN, hl'] at hil
   rw [hN] at hsk hpos hLl
   rw [hsk, up_up] at hup
   rw [hl'] at hll hls hup hLl
   have hdr : l.drop N = s.drop (j + K + N) := by rw [← hls, List.drop_drop]
   rw [hdr] at hup
   have ib : ∀ w, Calls Tryz.prog 44 #[st l, .int .u8 10] w (Give (.int .i64 I) w) := fun w => by rw [← hI, hl']; exact indexByte_ok l 10 w
   have sk2 : ∀ (w : World), w.heap[r]? = some (rdr s (j + K) (nlN (s.take (j + K)))) → Calls Tryz.prog 24 #[ptr r, .int .i64 (N : Int)] w (GiveT (.tuple #[]) r (rdr s (j + K + N) (nlN (s.take (j + K + N)))) w) := fun w h => sk (j + K) N w Zf7 h
   have fin : i ≤ j + K + N ∧ j + K + N ≤ s.length ∧ up (j + K + N - i) (skipS (s.drop (j + K + N))) = R := ⟨by omega, by omega, by rw [← hup]; congr 1; omega⟩
   by_cases hneg : I < 0
   ·have e := hil.1 hneg
    subst e
    repeat' (first | (apply gL; first | (apply Wl.ev rfl rfl; exact Zbq) | (refine lD 24 ?_; refine wl_callT0 rfl rfl has24 rfl Zg4 Zf ?_) | (refine lD 43 ?_; first | (refine Zgk ?_) | (refine Zgl ?_)) | (refine lD 44 ?_; refine wl_call0 rfl rfl has44 rfl (fun w _ => ib w) ?_) | (refine lD 24 ?_; refine wl_callT0 rfl rfl has24 rfl Zhm Zf ?_) | apply Wl.nil) | (apply gQ; first | (apply Wq.ev rfl rfl; exact Zbq) | ((show Wq _ _ (Qt _ _ _ _) _ _ _ _ [] _ _); apply Wq.tail) | (refine qD 41 ?_; refine Wq.call0 rfl rfl has41 rfl (fun w _ => ru w) ?_) | apply Wq.nil) | (apply lW; first | apply W.seq | (refine W.goto' rfl (j + K + l.length) fin Zf7 Zn Ze) | ((show W _ _ _ _ _ _ (.inl (.region 1 _ true) :: _) _ _); refine W.regionT 11 mixed Zj rfl rfl ?_) | (refine Zgf ?_) | apply W.region | apply W.block | apply W.skip | (refine Zz ?_ ?_ <;> (intro h; try exact Zg))))
   ·have e := hil.2 hneg
    subst e
    repeat' (first | (apply gL; first | (apply Wl.ev rfl rfl; exact Zbq) | (refine lD 24 ?_; refine wl_callT0 rfl rfl has24 rfl Zg4 Zf ?_) | (refine lD 43 ?_; first | (refine Zgk ?_) | (refine Zgl ?_)) | (refine lD 44 ?_; refine wl_call0 rfl rfl has44 rfl (fun w _ => ib w) ?_) | (refine lD 24 ?_; refine wl_callT0 rfl rfl has24 rfl Zhm Zf ?_) | apply Wl.nil) | (apply gQ; first | (apply Wq.ev rfl rfl; exact Zbq) | ((show Wq _ _ (Qt _ _ _ _) _ _ _ _ [] _ _); apply Wq.tail) | (refine qD 41 ?_; refine Wq.call0 rfl rfl has41 rfl (fun w _ => ru w) ?_) | apply Wq.nil) | (apply lW; first | apply W.seq | (refine W.goto' rfl (j + K + N) fin Zf7 Zn Ze) | ((show W _ _ _ _ _ _ (.inl (.region 1 _ true) :: _) _ _); refine W.regionT 11 mixed Zj rfl rfl ?_) | (refine Zgf ?_) | apply W.region | apply W.block | apply W.skip | (refine Zbg ?_) | (refine Zz ?_ ?_ <;> (intro h; try exact Zg))))
  ·have hdn := by_ne hd1
   by_cases hd2 : d = 42
   ·have hdm : (d.toNat : Int) = 42 := by rw [hd2]; rfl
    have hh : t.head? = some 42 := by rw [hth (.inr hd2), hd2]
    have hix := index_end (t.drop 1)
    have ht1 : 1 ≤ t.length := by
     cases t with
     | nil => simp at hh
     | cons e t => simp
    cases he : endN (t.drop 1) with
    | none =>
     rw [he] at hix
     simp only at hix
     rw [skip_open hh he] at hup
     have e : i + R.1 = j + K := by rw [← hup]; simp only [up]; omega
     have e2 : R.2 = false := by rw [← hup]; rfl
     rw [e, e2]
     obtain ⟨u, hu⟩ : ∃ u, t.drop 1 = u := ⟨_, rfl⟩
     rw [hu] at hix
     have hul : u.length ≤ 1000000 := by rw [← hu]; simp at hll ⊢; omega
     have hdl : (47 :: t).drop 2 = u := by rw [← hu]; rfl
     obtain ⟨l, hl'⟩ : ∃ l, 47 :: t = l := ⟨_, rfl⟩
     have hl2 : 2 ≤ l.length := by rw [← hl']; simp; omega
     rw [hl'] at hdl hll hls
     have ix : ∀ w, Mx w → Calls Tryz.prog 45 #[st u, st [42, 47]] w (Give (.int .i64 (-1)) w) := fun w h => by rw [← hix]; exact index_ok hul w h
     repeat' (first | (apply gL; first | (apply Wl.ev rfl rfl; exact Zbv) | (refine lD 24 ?_; refine wl_callT0 rfl rfl has24 rfl Zg4 Zf ?_) | (refine lD 43 ?_; first | (refine Zgk ?_) | (refine Zgl ?_)) | (refine lD 45 ?_; refine wl_call0 rfl rfl has45 rfl (fun w hs => ix w (hm.st hs hoff)) ?_) | apply Wl.nil) | (apply gQ; first | (apply Wq.ev rfl rfl; exact Zbv) | ((show Wq _ _ (Qt _ _ _ _) _ _ _ _ [] _ _); apply Wq.tail) | (refine qD 41 ?_; refine Wq.call0 rfl rfl has41 rfl (fun w _ => ru w) ?_) | apply Wq.nil) | (apply lW; first | apply W.seq | ((show W _ _ _ _ _ _ (.inl (.region 1 _ true) :: _) _ _); refine W.regionT 11 mixed Zj rfl rfl ?_) | (refine Zgf ?_) | apply W.region | apply W.block | apply W.skip | (refine Zbk ?_) | (refine Zz ?_ ?_ <;> (intro h; try exact Zg)) | (refine Zba ?_; intro w hs)))
     exact retT hs (lt_of_get hr) (List.Mem.head _) rfl
    | some n =>
     rw [he] at hix
     simp only at hix
     have hen := endN_lt he
     rw [skip_block hh he, up_up] at hup
     obtain ⟨u, hu⟩ : ∃ u, t.drop 1 = u := ⟨_, rfl⟩
     rw [hu] at hix hen
     have hul : u.length + 1 = t.length := by rw [← hu]; simp; omega
     have hdl : (47 :: t).drop 2 = u := by rw [← hu]; rfl
     obtain ⟨l, hl'⟩ : ∃ l, 47 :: t = l := ⟨_, rfl⟩
     have hl2 : u.length + 2 = l.length := by rw [← hl']; simp; omega
     rw [hl'] at hdl hll hls hup
     have hdr : l.drop (n + 4) = s.drop (j + K + (n + 4)) := by rw [← hls, List.drop_drop]
     rw [hdr] at hup
     have ix : ∀ w, Mx w → Calls Tryz.prog 45 #[st u, st [42, 47]] w (Give (.int .i64 (n : Int)) w) := fun w h => by rw [← hix]; exact index_ok Zf7 w h
     have sk2 : ∀ (w : World), w.heap[r]? = some (rdr s (j + K) (nlN (s.take (j + K)))) → Calls Tryz.prog 24 #[ptr r, .int .i64 ((n : Int) + 4)] w (GiveT (.tuple #[]) r (rdr s (j + K + (n + 4)) (nlN (s.take (j + K + (n + 4))))) w) := fun w h => sk (j + K) (n + 4) w Zf7 h
     have fin : i ≤ j + K + (n + 4) ∧ j + K + (n + 4) ≤ s.length ∧ up (j + K + (n + 4) - i) (skipS (s.drop (j + K + (n + 4)))) = R := ⟨by omega, by omega, by rw [← hup]; congr 1; omega⟩
     repeat' (first | (apply gL; first | (apply Wl.ev rfl rfl; exact Zbv) | (refine lD 24 ?_; refine wl_callT0 rfl rfl has24 rfl Zg4 Zf ?_) | (refine lD 43 ?_; first | (refine Zgk ?_) | (refine Zgl ?_)) | (refine lD 45 ?_; refine wl_call0 rfl rfl has45 rfl (fun w hs => ix w (hm.st hs hoff)) ?_) | (refine lD 24 ?_; refine wl_callT0 rfl rfl has24 rfl Zhm Zf ?_) | apply Wl.nil) | (apply gQ; first | (apply Wq.ev rfl rfl; exact Zbv) | ((show Wq _ _ (Qt _ _ _ _) _ _ _ _ [] _ _); apply Wq.tail) | (refine qD 41 ?_; refine Wq.call0 rfl rfl has41 rfl (fun w _ => ru w) ?_) | apply Wq.nil) | (apply lW; first | apply W.seq | (refine W.goto' rfl (j + K + (n + 4)) fin Zf7 Zn Ze) | ((show W _ _ _ _ _ _ (.inl (.region 1 _ true) :: _) _ _); refine W.regionT 11 mixed Zj rfl rfl ?_) | (refine Zgf ?_) | apply W.region | apply W.block | apply W.skip | (refine Zbg ?_) | (refine Zz ?_ ?_ <;> (intro h; try exact Zg))))
   ·have hdm := by_ne hd2
    rw [skip_stop bl47 (fun h => by
     rcases h.2 with h | h
     ·cases t with
      | nil => simp at h
      | cons e t => simp at h hd; exact hd1 (by rw [← hd, h])
     ·cases t with
      | nil => simp at h
      | cons e t => simp at h hd; exact hd2 (by rw [← hd, h]))] at hup
    have e : i + R.1 = j + K := by rw [← hup]; simp only [up]; omega
    have e2 : R.2 = true := by rw [← hup]; rfl
    rw [e, e2]
    obtain ⟨l, hl'⟩ : ∃ l, 47 :: t = l := ⟨_, rfl⟩
    rw [hl'] at hll hls
    repeat' (first | (apply gL; first | (apply Wl.ev rfl rfl; exact Zbq) | (refine lD 24 ?_; refine wl_callT0 rfl rfl has24 rfl Zg4 Zf ?_) | (refine lD 43 ?_; first | (refine Zgk ?_) | (refine Zgl ?_)) | apply Wl.nil) | (apply gQ; first | (apply Wq.ev rfl rfl; exact Zbq) | ((show Wq _ _ (Qt _ _ _ _) _ _ _ _ [] _ _); apply Wq.tail) | (refine qD 41 ?_; refine Wq.call0 rfl rfl has41 rfl (fun w _ => ru w) ?_) | apply Wq.nil) | (apply lW; first | apply W.seq | ((show W _ _ _ _ _ _ (.inl (.region 1 _ true) :: _) _ _); refine W.regionT 11 mixed Zj rfl rfl ?_) | (refine Zgf ?_) | apply W.region | apply W.block | apply W.blk | apply W.skip | (refine Zz ?_ ?_ <;> (intro h; try exact Zg)) | (refine Zba ?_; intro w hs)))
    all_goals exact retT hs (lt_of_get hr) (List.Mem.head _) rfl
 ·have hres : skipS l = (0, true) := by
   cases l with
   | nil => exact skip_nil
   | cons a t =>
    simp only [List.getD_cons_zero] at hc
    subst hc
    exact skip_stop (hstop Zgh) fun h => h47 h.1
  rw [hres] at hup
  have hcn := by_ne h47
  have e : i + R.1 = j + K := by rw [← hup]; simp only [up]; omega
  have e2 : R.2 = true := by rw [← hup]; rfl
  rw [e, e2]
  repeat' (first | (apply gL; first | (apply Wl.ev rfl rfl; exact Ze0) | (refine lD 24 ?_; refine wl_callT0 rfl rfl has24 rfl Zg4 Zf ?_) | (refine lD 43 ?_; first | (refine Zgk ?_) | (refine Zgl ?_)) | apply Wl.nil) | (apply gQ; first | (apply Wq.ev rfl rfl; exact Ze0) | ((show Wq _ _ (Qt _ _ _ _) _ _ _ _ [] _ _); apply Wq.tail) | (refine qD 41 ?_; refine Wq.call0 rfl rfl has41 rfl (fun w _ => ru w) ?_)) | (apply lW; first | apply W.seq | ((show W _ _ _ _ _ _ (.inl (.region 1 _ true) :: _) _ _); refine W.regionT 11 mixed Zj rfl rfl ?_) | apply W.region | (refine Zz ?_ ?_ <;> (intro h; try exact Zg)) | (refine Zba ?_; intro w hs)))
  exact retT hs (lt_of_get hr) (List.Mem.head _) rfl
end Go.Proofs.YtbinaeemcidicaaGreatDoor
