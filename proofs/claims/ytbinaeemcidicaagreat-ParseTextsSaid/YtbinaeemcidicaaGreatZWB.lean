/- Walks: the document's words. No condition. -/
import Derived.Test.YtbinaeemcidicaaGreatZQH
import Derived.Test.YtbinaeemcidicaaGreatZPF
import Derived.Test.YtbinaeemcidicaaGreatZRF
set_option maxRecDepth 100000
set_option maxHeartbeats 16000000
namespace Go.Proofs.YtbinaeemcidicaaGreat
open Go.PB Go.RowKit
attribute [local irreducible] Go.Calls
def refW : List (List UInt8) := [[97, 116, 116, 114, 105, 98, 117, 116, 101], [117, 110, 105, 102, 111, 114, 109], [118, 97, 114, 121, 105, 110, 103], [99, 111, 110, 115, 116], [105, 102], [101, 108, 115, 101], [102, 111, 114], [114, 101, 116, 117, 114, 110], [100, 105, 115, 99, 97, 114, 100], [116, 114, 117, 101], [102, 97, 108, 115, 101], [119, 104, 105, 108, 101], [100, 111], [98, 114, 101, 97, 107], [99, 111, 110, 116, 105, 110, 117, 101], [105, 110], [111, 117, 116], [105, 110, 111, 117, 116], [115, 116, 114, 117, 99, 116], [112, 114, 101, 99, 105, 115, 105, 111, 110]]
theorem res_ref (s : List UInt8) : (refW.contains s || (isTyp s || (decide (s = [108, 111, 119, 112]) || (decide (s = [109, 101, 100, 105, 117, 109, 112]) || decide (s = [104, 105, 103, 104, 112]))))) = isRes s := by
 have hd : ∀ v : List UInt8, decide (s = v) = (s == v) := fun v => by
  cases h : (s == v) with
  | true => exact decide_eq_true Zm5
  | false => exact decide_eq_false Zm5
 unfold isRes isQua refW resW quaW
 simp only [hd, List.contains_cons, List.contains_nil, Bool.or_false]
 ac_rfl
abbrev wordsV : Value := .tuple #[.agg (strV typW).toArray, .agg (strV refW).toArray]
theorem words_ok (w : World) : Calls Tryz.prog 109 #[] w (Give wordsV w) := by
 refine give_of_W (vs := []) Tryz.func109 rfl Tryz.ntmps109 (Nat.le_of_ble_eq_true rfl) (St.nil w []) ?_
 simp only [argL]
 repeat' (first | (apply gL; first | (apply Wl.ev rfl rfl; exact Zev) | (refine Zf6 ?_) | apply Wl.nil | (refine Zu ?_; intro b)) | (apply gQ; first | (apply Wq.ev rfl rfl; exact Zev)) | (apply lW; first | apply W.seq | ((show W _ _ _ _ _ _ (.inl .ret :: _) _ _); refine W.retcc rfl rfl (agT rfl) Zd (szT rfl) rfl (agT rfl) Zd (szT rfl) ?_; intro w hs) | apply W.region))
 all_goals first | exact ret_eq hs rfl
theorem contains_no {s : List UInt8} : ∀ {l : List (List UInt8)}, (∀ a ∈ l, ¬a = s) → l.contains s = false
 | [], _ => rfl
 | a :: l, h => by
  rw [List.contains_cons, contains_no fun b hb => h b (List.Mem.tail _ hb), Bool.or_false]
  simpa using fun e => h a (List.Mem.head _) e.symm
theorem contains_yes {s : List UInt8} {l : List (List UInt8)} {j : Nat} (hj : j < l.length) (h : l.getD j [] = s) : l.contains s = true := by
 rw [List.contains_iff_mem]
 rw [← h]
 simp [List.getD, hj]
theorem typeR_ok (s : List UInt8) (w : World) : Calls Tryz.prog 95 #[st s] w (Give (.bool (isTyp s)) w) := by
 refine give_of_W (vs := [st s]) Tryz.func95 rfl Tryz.ntmps95 (Nat.le_of_ble_eq_true rfl) (St.nil w []) ?_
 simp only [argL]
 repeat' (first | (apply gL; first | (apply Wl.ev rfl rfl; exact Zev) | (refine lD 109 ?_; refine wl_call0 rfl rfl has109 rfl (fun w hs => words_ok w) ?_) | (refine Zey ?_; refine wl_alloc rfl rfl (zeroT rfl) ?_; intro b3) | (refine lA 4 ?_; refine wl_alloc rfl rfl (zeroT rfl) ?_; intro b4) | (refine Zf6 ?_) | apply Wl.nil) | (apply gQ; first | (apply Wq.ev rfl rfl; exact Zev)) | (apply lW; first | apply W.seq | (refine W.loop (X := Nat) (fun j => [(0, st s), (11, .agg (strV typW).toArray), (12, .int .i64 (j : Nat))]) (fun _ => []) (fun j => j ≤ 14 ∧ ∀ a ∈ typW.take j, ¬a = s) (fun j => 14 - j) 0 ⟨Nat.zero_le _, by simp⟩ Zm (List.nil_sublist _) ?_) | apply W.region | apply W.block))
 rintro j ⟨hj, hall⟩
 by_cases hlt : j < 14
 ·have g0 : (strV typW)[((j : Nat) : Int).toNat]? = some (st (typW.getD j [])) := strV_get (l := typW) (j := ((j : Nat) : Int).toNat) hlt
  obtain ⟨y, hy⟩ : ∃ y, typW.getD j [] = y := ⟨_, rfl⟩
  rw [hy] at g0
  repeat' (first | (apply gL; first | (apply Wl.ev rfl rfl; exact Zci) | apply Wl.nil) | (apply gQ; first | (apply Wq.ev rfl rfl; exact Zci)) | (apply lW; first | apply W.seq | apply W.region | apply W.block | apply W.blk | apply W.skip | (refine Zv ?_ ?_ <;> (intro h; try exact Za)) | (refine Zx ?_; intro w hs)))
  all_goals first
   | exact W.again (j + 1) ⟨hlt, take_snoc_all (d := []) hlt hall (by rw [hy]; assumption)⟩ Zga Zm (List.nil_sublist _)
   | exact ret_eq hs (congrArg Value.bool (contains_yes hlt (hy.trans Zf5)).symm)
   | exact Zz
 ·obtain rfl : j = 14 := by omega
  repeat' (first | (apply gL; first | (apply Wl.ev rfl rfl; exact Zev) | apply Wl.nil) | (apply gQ; first | (apply Wq.ev rfl rfl; exact Zev)) | (apply lW; first | apply W.seq | apply W.region | (refine Zbm ?_) | (refine Zbc ?_) | (refine Zx ?_; intro w hs)))
  all_goals first | exact ret_eq hs (congrArg Value.bool (contains_no (l := typW) hall).symm) | exact Zz
theorem resvR_ok (s : List UInt8) (w : World) : Calls Tryz.prog 96 #[st s] w (Give (.bool (isRes s)) w) := by
 rw [← res_ref]
 refine give_of_W (vs := [st s]) Tryz.func96 rfl Tryz.ntmps96 (Nat.le_of_ble_eq_true rfl) (St.nil w []) ?_
 simp only [argL]
 repeat' (first | (apply gL; first | (apply Wl.ev rfl rfl; exact Zev) | (refine lD 109 ?_; refine wl_call0 rfl rfl has109 rfl (fun w hs => words_ok w) ?_) | (refine Zey ?_; refine wl_alloc rfl rfl (zeroT rfl) ?_; intro b3) | (refine lA 4 ?_; refine wl_alloc rfl rfl (zeroT rfl) ?_; intro b4) | (refine Zf6 ?_) | apply Wl.nil) | (apply gQ; first | (apply Wq.ev rfl rfl; exact Zev)) | (apply lW; first | apply W.seq | (refine W.loop (X := Nat) (fun j => [(0, st s), (11, .agg (strV refW).toArray), (12, .int .i64 (j : Nat))]) (fun _ => []) (fun j => j ≤ 20 ∧ ∀ a ∈ refW.take j, ¬a = s) (fun j => 20 - j) 0 ⟨Nat.zero_le _, by simp⟩ Zm (List.nil_sublist _) ?_) | apply W.region | apply W.block))
 rintro j ⟨hj, hall⟩
 by_cases hlt : j < 20
 ·have g0 : (strV refW)[((j : Nat) : Int).toNat]? = some (st (refW.getD j [])) := strV_get (l := refW) (j := ((j : Nat) : Int).toNat) hlt
  obtain ⟨y, hy⟩ : ∃ y, refW.getD j [] = y := ⟨_, rfl⟩
  rw [hy] at g0
  repeat' (first | (apply gL; first | (apply Wl.ev rfl rfl; exact Zci) | apply Wl.nil) | (apply gQ; first | (apply Wq.ev rfl rfl; exact Zci)) | (apply lW; first | apply W.seq | apply W.region | apply W.block | apply W.blk | apply W.skip | (refine Zv ?_ ?_ <;> (intro h; try exact Za)) | (refine Zx ?_; intro w hs)))
  all_goals first
   | exact W.again (j + 1) ⟨hlt, take_snoc_all (d := []) hlt hall (by rw [hy]; assumption)⟩ Zga Zm (List.nil_sublist _)
   | exact ret_eq hs (congrArg Value.bool (by rw [contains_yes hlt (hy.trans Zf5), Bool.true_or]))
   | exact Zz
 ·obtain rfl : j = 20 := by omega
  rw [contains_no (l := refW) hall, Bool.false_or]
  have hq : ∀ w, Calls Tryz.prog 95 #[st s] w (Give (.bool (isTyp s)) w) := typeR_ok s
  obtain ⟨q, hqq⟩ : ∃ q, isTyp s = q := ⟨_, rfl⟩
  rw [hqq] at hq ⊢
  by_cases h1 : s = [108, 111, 119, 112]
  ·rw [decide_eq_true h1]
   repeat' (first | (apply gL; first | (apply Wl.ev rfl rfl; exact Zev) | (refine lD 95 ?_; refine wl_call0 rfl rfl has95 rfl Zfv ?_) | apply Wl.nil | (refine Zbb ?_) | ((fail_if_success (apply Wl.chk rfl)); refine Wl.split rfl rfl ?_ ?_ <;> (intro h; try exact Za)) | ((fail_if_success (apply Wl.chk rfl)); refine Wl.splitB rfl rfl ?_ ?_ <;> (intro h; try exact Zg))) | (apply gQ; first | (apply Wq.ev rfl rfl; exact Zev)) | (apply lW; first | apply W.seq | apply W.region | (refine Zbm ?_) | (refine Zbc ?_) | (refine Zx ?_; intro w hs)))
   all_goals first | exact ret_eq hs (congrArg Value.bool (by simp_all)) | contradiction | exact Zz
  ·rw [decide_eq_false h1]
   by_cases h2 : s = [109, 101, 100, 105, 117, 109, 112]
   ·rw [decide_eq_true h2]
    repeat' (first | (apply gL; first | (apply Wl.ev rfl rfl; exact Zev) | (refine lD 95 ?_; refine wl_call0 rfl rfl has95 rfl Zfv ?_) | apply Wl.nil | (refine Zbb ?_) | ((fail_if_success (apply Wl.chk rfl)); refine Wl.split rfl rfl ?_ ?_ <;> (intro h; try exact Za)) | ((fail_if_success (apply Wl.chk rfl)); refine Wl.splitB rfl rfl ?_ ?_ <;> (intro h; try exact Zg))) | (apply gQ; first | (apply Wq.ev rfl rfl; exact Zev)) | (apply lW; first | apply W.seq | apply W.region | (refine Zbm ?_) | (refine Zbc ?_) | (refine Zx ?_; intro w hs)))
    all_goals first | exact ret_eq hs (congrArg Value.bool (by simp_all)) | contradiction | exact Zz
   ·rw [decide_eq_false h2]
    repeat' (first | (apply gL; first | (apply Wl.ev rfl rfl; exact Zev) | (refine lD 95 ?_; refine wl_call0 rfl rfl has95 rfl Zfv ?_) | apply Wl.nil | (refine Zbb ?_) | ((fail_if_success (apply Wl.chk rfl)); refine Wl.split rfl rfl ?_ ?_ <;> (intro h; try exact Za)) | ((fail_if_success (apply Wl.chk rfl)); refine Wl.splitB rfl rfl ?_ ?_ <;> (intro h; try exact Zg))) | (apply gQ; first | (apply Wq.ev rfl rfl; exact Zev)) | (apply lW; first | apply W.seq | apply W.region | (refine Zbm ?_) | (refine Zbc ?_) | (refine Zx ?_; intro w hs)))
    all_goals first | exact ret_eq hs (congrArg Value.bool (by simp_all)) | contradiction | exact Zz
end Go.Proofs.YtbinaeemcidicaaGreat
namespace Go.Proofs.YtbinaeemcidicaaGreat
open Go.PB Go.RowKit
attribute [local irreducible] Go.Calls
abbrev rdO (lv : Value) (a : Nat) (b : Bool) : Obj := row [lv, .int .i64 (a : Nat), .bool b] 54
def rdS (lv : Value) (L : List Ti) (s : Rs) : Obj := rdO lv (L.length - s.1.length) s.2
abbrev rnO (kd : Int) (ty tx : List UInt8) (nm pl : Int) (kv : Value) : Obj := row [.int .i64 kd, st ty, st tx, .int .i32 nm, .slice none 0 0, .int .i64 pl, kv] 79
theorem suf_at {L l : List Ti} (h : l <:+ L) : At L (L.length - l.length) l := ⟨Nat.sub_le _ _, (List.suffix_iff_eq_drop.1 h).symm⟩
theorem rtoken_ok {M : List Nat} {w0 w : World} {H TR : List Ent} {r a k : Nat} {wr b : Bool} {lv : Value} {L : List Ti} (hst : St M w0 w H) (hr : (⟨r, wr, rdO lv a b⟩ : Ent) ∈ H) (hT : TokE TR r lv L) (hm : ∀ p ∈ TR, p ∈ H) (ha : a ≤ L.length) (hk : k ≤ 1) :
  Calls Tryz.prog 61 #[ptr r, .int .i64 (k : Nat)] w (Give (tiV ((L.drop (a + k)).headD ti0)) w) := by
 obtain ⟨hT1, hT2, hT3, _⟩ := hT
 have hv' := hT1.ro
 have hm' : ∀ p ∈ ro TR, p ∈ ro H := fun p hp => by
  obtain ⟨q, hq, rfl⟩ := List.mem_map.1 hp
  exact List.mem_map.2 ⟨q, hm q hq, rfl⟩
 have hr' := mem_ro hr
 obtain ⟨q, c, rfl⟩ := hT1.len
 refine give_of_W (vs := [ptr r, .int .i64 (k : Nat)]) Tryz.func61 rfl Tryz.ntmps61 (Nat.le_of_ble_eq_true rfl) hst.reads ?_
 simp only [argL]
 by_cases hlt : a + k < L.length
 ·obtain ⟨b, off, c1, arr, et, fr, wr, he, hmm, hcc, hgt⟩ := hv'.pos Zga
  cases he
  have g0 : ∀ (f : Nat) u, (tiC (L.getD (a + k) ti0))[f]? = some u → ∀ o, o = off + ((a + k) * 5 + f) → arr[o]? = some u := fun f u h => hgt _ _ (tisC_get hlt h)
  have hh : (L.drop (a + k)).headD ti0 = L.getD (a + k) ti0 := by
   rw [List.drop_eq_getElem_cons hlt]
   simp [List.getD, hlt]
  rw [hh]
  obtain ⟨t, ht⟩ : ∃ t, L.getD (a + k) ti0 = t := ⟨_, rfl⟩
  rw [ht] at g0 ⊢
  repeat' (first | (apply gL; first | (apply Wl.ev rfl rfl; exact Zcd) | (refine Zf6 ?_) | apply Wl.nil | (refine Zu ?_; intro b)) | (apply gQ; first | (apply Wq.ev rfl rfl; exact Zcd) | ((show Wq _ _ (Qt _ _ _ _) _ _ _ _ [] _ _); apply Wq.tail) | apply Wq.nil) | (apply lW; first | apply W.seq | ((show W _ _ _ _ _ _ (.inl (.region 2 _ true) :: _) _ _); refine W.regionT 12 mixed Zl rfl rfl ?_) | (refine Zgf ?_) | apply W.region | (refine Zv ?_ ?_ <;> (intro h; try exact Za)) | (refine Zgy ?_; intro w hs)))
  all_goals first | exact ret_eq hs rfl | exact Zz
 ·have hh : (L.drop (a + k)).headD ti0 = ti0 := by rw [List.drop_of_length_le Zga]; rfl
  rw [hh]
  repeat' (first | (apply gL; first | (apply Wl.ev rfl rfl; exact Zeo) | (refine Zf6 ?_) | apply Wl.nil | (refine Zu ?_; intro b)) | (apply gQ; first | (apply Wq.ev rfl rfl; exact Zeo) | apply Wq.nil) | (apply lW; first | apply W.seq | (refine Zgf ?_) | apply W.region | apply W.skip | (refine Zv ?_ ?_ <;> (intro h; try exact Za)) | (refine Zgy ?_; intro w hs)))
  all_goals first | exact ret_eq hs rfl | exact Zz
theorem rtok0 {M : List Nat} {w0 w : World} {H TR : List Ent} {r : Nat} {wr : Bool} {lv : Value} {L : List Ti} {s : Rs} (hst : St M w0 w H) (hr : (⟨r, wr, rdS lv L s⟩ : Ent) ∈ H) (hT : TokE TR r lv L) (hm : ∀ p ∈ TR, p ∈ H) (hs : s.1 <:+ L) :
  Calls Tryz.prog 61 #[ptr r, .int .i64 0] w (Give (tiV (hdR s)) w) := by
 have h := suf_at hs
 have := rtoken_ok (k := 0) hst hr hT hm h.1 Zga
 rw [Nat.add_zero, h.2] at this
 exact this
theorem rtok1 {M : List Nat} {w0 w : World} {H TR : List Ent} {r : Nat} {wr : Bool} {lv : Value} {L : List Ti} {s : Rs} (hst : St M w0 w H) (hr : (⟨r, wr, rdS lv L s⟩ : Ent) ∈ H) (hT : TokE TR r lv L) (hm : ∀ p ∈ TR, p ∈ H) (hs : s.1 <:+ L) :
  Calls Tryz.prog 61 #[ptr r, .int .i64 1] w (Give (tiV (hd2R s)) w) := by
 have h := suf_at hs
 have := rtoken_ok (k := 1) hst hr hT hm h.1 Zga
 rw [← List.drop_drop, h.2] at this
 exact this
theorem TokE.ro {TR : List Ent} {r : Nat} {lv : Value} {L : List Ti} (h : TokE TR r lv L) : TokE (ro TR) r lv L := ⟨h.1.ro, fun p hp => by
 obtain ⟨q, hq, rfl⟩ := List.mem_map.1 hp
 exact h.2.1 q hq, h.2.2⟩
theorem ro_mem {TR H : List Ent} (hm : ∀ p ∈ TR, p ∈ H) : ∀ p ∈ ro TR, p ∈ ro H := fun p hp => by
 obtain ⟨q, hq, rfl⟩ := List.mem_map.1 hp
 exact List.mem_map.2 ⟨q, hm q hq, rfl⟩
theorem ris {M : List Nat} {w0 w : World} {H TR : List Ent} {r : Nat} {wr : Bool} {lv : Value} {L : List Ti} {s : Rs} {u : List UInt8} {x : Bool} (hst : St M w0 w H) (hr : (⟨r, wr, rdS lv L s⟩ : Ent) ∈ H) (hT : TokE TR r lv L) (hm : ∀ p ∈ TR, p ∈ H) (hsf : s.1 <:+ L) (hx : isA [u] (hdR s) = x) :
  Calls Tryz.prog 62 #[ptr r, st u] w (Give (.bool x) w) := by
 have hr' := mem_ro hr; have hT' := hT.ro; have hm' := ro_mem hm
 refine give_of_W (vs := [ptr r, st u]) Tryz.func62 rfl Tryz.ntmps62 (Nat.le_of_ble_eq_true rfl) hst.reads ?_
 simp only [argL]
 have ht : ∀ {M : List Nat} {w0 : World} {H : List Ent} (w' : World), St M w0 w' H → (⟨r, false, rdS lv L s⟩ : Ent) ∈ H → (∀ p ∈ ro TR, p ∈ H) → Calls Tryz.prog 61 #[ptr r, .int .i64 0] w' (Give (tiV (hdR s)) w') := fun w' hs h1 h2 => rtok0 hs h1 hT' h2 hsf
 obtain ⟨t, htt⟩ : ∃ t, hdR s = t := ⟨_, rfl⟩
 rw [htt] at hx ht
 subst hx
 obtain ⟨k, tx, y, a, n⟩ := t
 dsimp only [tiV, tiC] at ht
 have hc : isA [u] ⟨k, tx, y, a, n⟩ = ((decide (k = 4) || decide (k = 1)) && decide (tx = u)) := by
  unfold isA
  congr 1
  cases hd : decide (tx = u) with
  | true => have := of_decide_eq_true hd; subst this; simp
  | false => have := of_decide_eq_false hd; simpa using this
 rw [hc]
 clear hc
 by_cases h4 : k = 4
 ·rw [decide_eq_true h4, Bool.true_or, Bool.true_and]
  repeat' (first | (apply gL; first | (apply Wl.ev rfl rfl; exact Zhe) | (refine Zf6 ?_) | (refine lD 61 ?_; refine wl_call0 rfl rfl has61 rfl Zbv ?_) | apply Wl.nil | (refine Zbb ?_) | (refine Zu ?_; intro b)) | (apply gQ; first | (apply Wq.ev rfl rfl; exact Zhe)) | (apply lW; first | apply W.seq | apply W.region | (refine Zx ?_; intro w hs)))
  all_goals first | exact ret_eq hs rfl | contradiction
 ·by_cases h1 : k = 1
  ·rw [decide_eq_true h1, Bool.or_true, Bool.true_and]
   repeat' (first | (apply gL; first | (apply Wl.ev rfl rfl; exact Zct) | (refine Zf6 ?_) | (refine lD 61 ?_; refine wl_call0 rfl rfl has61 rfl Zbv ?_) | apply Wl.nil | (refine Zu ?_; intro b)) | (apply gQ; first | (apply Wq.ev rfl rfl; exact Zct)) | (apply lW; first | apply W.seq | apply W.region | (refine Zx ?_; intro w hs)))
   all_goals first | exact ret_eq hs rfl | contradiction
  ·rw [decide_eq_false h4, decide_eq_false h1, Bool.false_or, Bool.false_and]
   repeat' (first | (apply gL; first | (apply Wl.ev rfl rfl; exact Zcs) | (refine Zf6 ?_) | (refine lD 61 ?_; refine wl_call0 rfl rfl has61 rfl Zbv ?_) | apply Wl.nil | (refine Zbb ?_) | (refine Zu ?_; intro b)) | (apply gQ; first | (apply Wq.ev rfl rfl; exact Zcs)) | (apply lW; first | apply W.seq | apply W.region | (refine Zx ?_; intro w hs)))
   all_goals first | exact ret_eq hs rfl | contradiction
theorem rity {M : List Nat} {w0 w : World} {H TR : List Ent} {r : Nat} {wr : Bool} {lv : Value} {L : List Ti} {s : Rs} {x : Bool} (hst : St M w0 w H) (hr : (⟨r, wr, rdS lv L s⟩ : Ent) ∈ H) (hT : TokE TR r lv L) (hm : ∀ p ∈ TR, p ∈ H) (hsf : s.1 <:+ L) (hx : typedT (hdR s) = x) :
  Calls Tryz.prog 64 #[ptr r] w (Give (.bool x) w) := by
 have hr' := mem_ro hr; have hT' := hT.ro; have hm' := ro_mem hm
 refine give_of_W (vs := [ptr r]) Tryz.func64 rfl Tryz.ntmps64 (Nat.le_of_ble_eq_true rfl) hst.reads ?_
 simp only [argL]
 have ht : ∀ {M : List Nat} {w0 : World} {H : List Ent} (w' : World), St M w0 w' H → (⟨r, false, rdS lv L s⟩ : Ent) ∈ H → (∀ p ∈ ro TR, p ∈ H) → Calls Tryz.prog 61 #[ptr r, .int .i64 0] w' (Give (tiV (hdR s)) w') := fun w' hs h1 h2 => rtok0 hs h1 hT' h2 hsf
 obtain ⟨t, htt⟩ : ∃ t, hdR s = t := ⟨_, rfl⟩
 rw [htt] at hx ht
 subst hx
 obtain ⟨k, tx, y, a, n⟩ := t
 dsimp only [tiV, tiC] at ht
 unfold typedT
 have hty : ∀ w, Calls Tryz.prog 95 #[st tx] w (Give (.bool (isTyp tx)) w) := typeR_ok tx
 obtain ⟨y1, hy1⟩ : ∃ y, isTyp tx = y := ⟨_, rfl⟩
 dsimp only
 rw [hy1] at hty ⊢
 by_cases h1 : k = 1
 ·rw [decide_eq_true h1, Bool.true_and]
  repeat' (first | (apply gL; first | (apply Wl.ev rfl rfl; exact Zdw) | (refine lD 61 ?_; refine wl_call0 rfl rfl has61 rfl Zbv ?_) | (refine lD 95 ?_; refine wl_call0 rfl rfl has95 rfl (fun w hs => hty w) ?_) | apply Wl.nil) | (apply gQ; first | (apply Wq.ev rfl rfl; exact Zdw)) | (apply lW; first | apply W.seq | apply W.region | (refine Zx ?_; intro w hs)))
  all_goals first | exact ret_eq hs rfl | contradiction
 ·rw [decide_eq_false h1, Bool.false_and]
  repeat' (first | (apply gL; first | (apply Wl.ev rfl rfl; exact Zdu) | (refine lD 61 ?_; refine wl_call0 rfl rfl has61 rfl Zbv ?_) | apply Wl.nil | (refine Zbb ?_)) | (apply gQ; first | (apply Wq.ev rfl rfl; exact Zdu)) | (apply lW; first | apply W.seq | apply W.region | (refine Zx ?_; intro w hs)))
  all_goals first | exact ret_eq hs rfl | contradiction
theorem rinm {M : List Nat} {w0 w : World} {H TR : List Ent} {r : Nat} {wr : Bool} {lv : Value} {L : List Ti} {s : Rs} {x : Bool} (hst : St M w0 w H) (hr : (⟨r, wr, rdS lv L s⟩ : Ent) ∈ H) (hT : TokE TR r lv L) (hm : ∀ p ∈ TR, p ∈ H) (hsf : s.1 <:+ L) (hx : namedT (hdR s) = x) :
  Calls Tryz.prog 65 #[ptr r] w (Give (.bool x) w) := by
 have hr' := mem_ro hr; have hT' := hT.ro; have hm' := ro_mem hm
 refine give_of_W (vs := [ptr r]) Tryz.func65 rfl Tryz.ntmps65 (Nat.le_of_ble_eq_true rfl) hst.reads ?_
 simp only [argL]
 have ht : ∀ {M : List Nat} {w0 : World} {H : List Ent} (w' : World), St M w0 w' H → (⟨r, false, rdS lv L s⟩ : Ent) ∈ H → (∀ p ∈ ro TR, p ∈ H) → Calls Tryz.prog 61 #[ptr r, .int .i64 0] w' (Give (tiV (hdR s)) w') := fun w' hs h1 h2 => rtok0 hs h1 hT' h2 hsf
 obtain ⟨t, htt⟩ : ∃ t, hdR s = t := ⟨_, rfl⟩
 rw [htt] at hx ht
 subst hx
 obtain ⟨k, tx, y, a, n⟩ := t
 dsimp only [tiV, tiC] at ht
 unfold namedT
 have hty : ∀ w, Calls Tryz.prog 96 #[st tx] w (Give (.bool (isRes tx)) w) := resvR_ok tx
 obtain ⟨y1, hy1⟩ : ∃ y, isRes tx = y := ⟨_, rfl⟩
 dsimp only
 rw [hy1] at hty ⊢
 by_cases h1 : k = 1
 ·rw [decide_eq_true h1, Bool.true_and]
  repeat' (first | (apply gL; first | (apply Wl.ev rfl rfl; exact Zdw) | (refine lD 61 ?_; refine wl_call0 rfl rfl has61 rfl Zbv ?_) | (refine lD 96 ?_; refine wl_call0 rfl rfl has96 rfl (fun w hs => hty w) ?_) | apply Wl.nil) | (apply gQ; first | (apply Wq.ev rfl rfl; exact Zdw)) | (apply lW; first | apply W.seq | apply W.region | (refine Zx ?_; intro w hs)))
  all_goals first | exact ret_eq hs rfl | contradiction
 ·rw [decide_eq_false h1, Bool.false_and]
  repeat' (first | (apply gL; first | (apply Wl.ev rfl rfl; exact Zdu) | (refine lD 61 ?_; refine wl_call0 rfl rfl has61 rfl Zbv ?_) | apply Wl.nil | (refine Zbb ?_)) | (apply gQ; first | (apply Wq.ev rfl rfl; exact Zdu)) | (apply lW; first | apply W.seq | apply W.region | (refine Zx ?_; intro w hs)))
  all_goals first | exact ret_eq hs rfl | contradiction
end Go.Proofs.YtbinaeemcidicaaGreat
