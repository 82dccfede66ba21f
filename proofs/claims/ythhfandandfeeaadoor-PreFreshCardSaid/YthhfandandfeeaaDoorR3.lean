/- Walks of functions of this seat, and what they compute: lemmas for the proofs of its statements. No condition. -/
import Derived.Test.YthhfandandfeeaaDoorR1
namespace Go.Proofs.YthhfandandfeeaaDoor
open Go.PB Go.RowKit
attribute [local irreducible] Go.Calls
/-- a row of digits is doubled: what passes its point; the digits that stay -/
def dbl : List Nat → Nat × List Nat
  | [] => (0, [])
  | d :: ds => ((2 * d + (dbl ds).1) / 10, (2 * d + (dbl ds).1) % 10 :: (dbl ds).2)
theorem dbl_len : ∀ ds : List Nat, (dbl ds).2.length = ds.length
  | [] => rfl
  | d :: ds => by simp [dbl, dbl_len ds]
theorem dbl_digit : ∀ (ds : List Nat), ∀ d ∈ (dbl ds).2, d < 10
  | [], d, h => by simp [dbl] at h
  | e :: ds, d, h => by
    simp only [dbl, List.mem_cons] at h
    rcases h with rfl | h
    · omega
    · exact dbl_digit ds d h
theorem dbl_carry : ∀ (ds : List Nat), (∀ d ∈ ds, d < 10) → (dbl ds).1 ≤ 1
  | [], _ => by simp [dbl]
  | d :: ds, h => by
    have h1 := dbl_carry ds (fun e he => h e (by simp [he]))
    have h2 := h d (by simp)
    simp only [dbl]
    omega
/-- so often -/
def binS : Nat → Nat → List Nat → Nat
  | 0, n, _ => n
  | r + 1, n, ds => binS r (2 * n + (dbl ds).1) (dbl ds).2
theorem binS_lin : ∀ (r n : Nat) (ds : List Nat), binS r n ds = n * 2 ^ r + binS r 0 ds
  | 0, n, ds => by simp [binS]
  | r + 1, n, ds => by
    simp only [binS]
    rw [binS_lin r (2 * n + (dbl ds).1), binS_lin r (2 * 0 + (dbl ds).1), Nat.pow_succ]
    rw [Nat.add_mul, Nat.add_mul, Nat.mul_comm 2 n, Nat.mul_assoc, Nat.mul_comm 2 (2 ^ r)]
    omega
theorem binS_lt : ∀ (r n : Nat) (ds : List Nat), (∀ d ∈ ds, d < 10) → binS r n ds < (n + 1) * 2 ^ r
  | 0, n, ds, _ => by simp [binS]
  | r + 1, n, ds, h => by
    have h1 := binS_lt r (2 * n + (dbl ds).1) (dbl ds).2 (dbl_digit ds)
    have h2 := dbl_carry ds h
    simp only [binS]
    refine Nat.lt_of_lt_of_le h1 ?_
    rw [Nat.pow_succ, Nat.mul_comm (2 ^ r) 2, ← Nat.mul_assoc]
    exact Nat.mul_le_mul_right _ (by omega)
/-- the bytes of digits, in a row with room behind them -/
def digC (ds : List Nat) (z : Nat) : Array Value := (ds.map (fun d => Value.int .u8 (48 + d : Nat)) ++ List.replicate z (Value.int .u8 0)).toArray
theorem digC_size (ds : List Nat) (z : Nat) : (digC ds z).size = ds.length + z := by simp [digC]
theorem digC_get (ds : List Nat) (z i : Nat) (h : i < ds.length) : (digC ds z)[i]? = some (.int .u8 (48 + ds[i] : Nat)) := by
  simp [digC, List.getElem?_append_left, h]
theorem digC_set (xs ys : List Nat) (d v z : Nat) : (digC (xs ++ d :: ys) z).setIfInBounds xs.length (.int .u8 (48 + v : Nat)) = digC (xs ++ v :: ys) z := by
  apply Array.ext'
  simp [digC]
def digB (ds : List Nat) : List UInt8 := ds.map fun d => (48 + d).toUInt8
theorem digB_len (ds : List Nat) : (digB ds).length = ds.length := by simp [digB]
theorem digB_cells (ds : List Nat) (h : ∀ d ∈ ds, d < 10) (z : Nat) : (bytV (digB ds) ++ List.replicate z (Value.int .u8 0)).toArray = digC ds z := by
  have e : bytV (digB ds) = ds.map fun d => Value.int .u8 (48 + d : Nat) := by
    unfold bytV digB
    rw [List.map_map]
    refine List.map_congr_left fun d hd => ?_
    have := h d hd
    simp only [Function.comp, Value.int.injEq, true_and]
    congr 1
    show ((48 + d).toUInt8).toNat = 48 + d
    simp [Nat.toUInt8, UInt8.toNat_ofNat']
    omega
  rw [e]
  rfl
theorem or_ok (n c : Nat) (hn : n < 4611686018427387904) (hc : c ≤ 1) : Value.int .i64 (IntKind.i64.wrap ((BitVec.ofInt IntKind.i64.bits (IntKind.i64.wrap ((n : Int) * 2 ^ (min (Int.toNat 1) IntKind.i64.bits))) ||| BitVec.ofInt IntKind.i64.bits (c : Int)).toNat : Int)) = .int .i64 ((2 * n + c : Nat) : Int) := by
  have e1 : (2 : Int) ^ (min (Int.toNat 1) IntKind.i64.bits) = 2 := by decide
  rw [e1, show IntKind.i64.wrap ((n : Int) * 2) = (n : Int) * 2 from wrap64_in (by omega)]
  have e2 : (BitVec.ofInt IntKind.i64.bits ((n : Int) * 2)).toNat = n <<< 1 := by
    rw [BitVec.toNat_ofInt, Nat.shiftLeft_eq]
    simp only [IntKind.bits]
    omega
  have e3 : (BitVec.ofInt IntKind.i64.bits (c : Int)).toNat = c := by
    rw [BitVec.toNat_ofInt]
    simp only [IntKind.bits]
    omega
  rw [BitVec.toNat_or, e2, e3, ← Nat.shiftLeft_add_eq_or_of_lt (by omega), Nat.shiftLeft_eq]
  congr 1
  rw [wrap64_in (by omega)]
  omega
set_option maxRecDepth 100000 in
set_option maxHeartbeats 4000000 in
theorem binary_ok (ds : List Nat) (hd : ∀ d ∈ ds, d < 10) (hl : ds.length < 100000) (w : World) : Calls Tryd.prog 78 #[st (digB ds)] w (Give (.int .i64 (binS 17 0 ds : Nat)) w) := by
  refine give_of_W (vs := [st (digB ds)]) Tryd.func78 rfl Tryd.ntmps78 (Nat.le_of_ble_eq_true rfl) (St.nil w _) ?_
  simp only [argL]
  repeat' (first | ((show Wl _ _ _ _ _ _ _ _ _ _); first | (apply Wl.ev rfl rfl; (focus (first | ((show Ev _ _ _ _ _ _ _ (.move _) _ _); first | exact ev_move rfl) | ((show Ev _ _ _ _ _ _ _ (.assign _) _ _); first | exact ev_assign rfl)))) | apply Wl.nil | (refine wl_strBytes rfl rfl (strT rfl) (slT rfl) (intT rfl) rfl ?_; intro b cap hcap)) | ((show W _ _ _ _ _ _ _ _ _); first | apply W.seq | apply W.region | apply W.block))
  rw [digB_len] at hcap ⊢
  rw [digB_cells ds hd]
  obtain ⟨z, hz⟩ : ∃ z, cap - ds.length = z := ⟨_, rfl⟩
  rw [hz]
  refine W.loop (X := Nat × Nat × List Nat) (fun x => [(3, .slice (some ⟨b, 0, none⟩) ds.length cap), (4, .int .i64 (x.2.1 : Nat)), (11, .int .i64 (x.1 : Nat))]) (fun x => [⟨b, true, .cells (digC x.2.2 z) 5 (cap, cap + 1)⟩])
    (fun x => x.1 ≤ 17 ∧ x.2.1 < 2 ^ x.1 ∧ x.2.2.length = ds.length ∧ (∀ d ∈ x.2.2, d < 10) ∧ binS (17 - x.1) x.2.1 x.2.2 = binS 17 0 ds) (fun x => 17 - x.1) (0, 0, ds) ⟨by omega, by simp, rfl, hd, rfl⟩ (by repeat (first | exact SubL.nil | refine SubL.cons rfl ?_)) (by repeat (first | exact SubH.nil | apply SubH.keep | apply SubH.drop | exact List.Sublist.refl _)) ?_
  rintro ⟨r, m, es⟩ ⟨hr, hm, hel, hed, heq⟩
  simp only at hr hm hel hed heq ⊢
  have hm2 : m < 131072 := Nat.lt_of_lt_of_le hm (Nat.pow_le_pow_right (by omega) hr)
  by_cases hlt : r < 17
  · repeat' (first | ((show Wl _ _ _ _ _ _ _ _ _ _); first | (apply Wl.ev rfl rfl; (focus (first | ((show Ev _ _ _ _ _ _ _ (.move _) _ _); first | exact ev_move rfl) | ((show Ev _ _ _ _ _ _ _ (.assign _) _ _); first | exact ev_assign rfl) | ((show Ev _ _ _ _ _ _ _ (.binOp _ _ _ _ _) _ _); first | exact ev_lti rfl rfl) | ((show Ev _ _ _ _ _ _ _ (.call _) _ _); first | exact ev_len_slice (slT rfl) rfl)))) | apply Wl.nil) | ((show W _ _ _ _ _ _ _ _ _); first | apply W.seq | apply W.region | apply W.block | apply W.skip | (refine W.cond rfl ?_ ?_ <;> (intro h; try (exfalso; first | contradiction | omega | exact h rfl | exact h ⟨rfl, rfl⟩ | (simp_all; done))))))
    refine W.loop (X := Nat × Nat × List Nat) (fun x => [(3, .slice (some ⟨b, 0, none⟩) ds.length cap), (4, .int .i64 (m : Nat)), (5, .int .u8 (x.2.1 : Nat)), (11, .int .i64 (r : Nat)), (14, .int .i64 (ds.length : Nat)), (15, .int .i64 (x.1 : Nat))]) (fun x => [⟨b, true, .cells (digC (es.take (es.length - x.1) ++ x.2.2) z) 5 (cap, cap + 1)⟩])
      (fun x => x.1 ≤ es.length ∧ dbl (es.drop (es.length - x.1)) = (x.2.1, x.2.2)) (fun x => es.length - x.1) (0, 0, []) ⟨by omega, by simp [dbl]⟩ (by repeat (first | exact SubL.nil | refine SubL.cons rfl ?_)) (by simp only [Nat.sub_zero, List.take_length, List.append_nil]; exact (by repeat (first | exact SubH.nil | apply SubH.keep | apply SubH.drop | exact List.Sublist.refl _))) ?_
    rintro ⟨i, c, res⟩ ⟨hi, hdb⟩
    simp only at hi hdb ⊢
    by_cases hil : i < es.length
    · obtain ⟨k, hk⟩ : ∃ k, k = es.length - 1 - i := ⟨_, rfl⟩
      have hk1 : es.length - i = k + 1 := by omega
      have hkl : k < es.length := by omega
      rw [hk1] at hdb ⊢
      have hd9 : es[k] < 10 := hed _ (List.getElem_mem hkl)
      have hc1 : c ≤ 1 := by
        have := dbl_carry (es.drop (k + 1)) (fun d h => hed d (List.mem_of_mem_drop h))
        rw [hdb] at this
        exact this
      have hnext : dbl (es.drop k) = ((2 * es[k] + c) / 10, (2 * es[k] + c) % 10 :: res) := by
        rw [List.drop_eq_getElem_cons hkl]
        simp [dbl, hdb]
      have hrl : res.length = es.length - (k + 1) := by
        have := dbl_len (es.drop (k + 1))
        rw [hdb] at this
        simpa using this
      have hsplit : es.take (k + 1) = es.take k ++ [es[k]] := List.take_succ_eq_append_getElem hkl
      have hcur : es.take (k + 1) ++ res = es.take k ++ es[k] :: res := by rw [hsplit, List.append_assoc]; rfl
      have htl : (es.take k).length = k := by simp; omega
      have hcell : ∀ off, off = k → (digC (es.take (k + 1) ++ res) z)[off]? = some (.int .u8 ((48 + es[k] : Nat) : Int)) := fun off ho => by
        subst ho
        rw [digC_get _ _ _ (by simp; omega)]
        simp [hcur, htl]
      have hset : ∀ (off : Nat) (x : Int) (v : Nat), off = k → x = ((48 + v : Nat) : Int) → SubH [⟨b, true, .cells (digC (es.take k ++ v :: res) z) 5 (cap, cap + 1)⟩] [⟨b, true, .cells ((digC (es.take (k + 1) ++ res) z).setIfInBounds off (.int .u8 x)) 5 (cap, cap + 1)⟩] := fun off x v ho hx => by
        subst ho
        subst hx
        have := digC_set (es.take off) res es[off] v z
        rw [htl] at this
        rw [hcur, this]
        exact List.Sublist.refl _
      repeat' (first | ((show Wl _ _ _ _ _ _ _ _ _ _); first | (apply Wl.ev rfl rfl; (focus (first | ((show Ev _ _ _ _ _ _ _ (.move _) _ _); first | exact ev_move rfl) | ((show Ev _ _ _ _ _ _ _ (.load _ _) _ _); first | exact ev_loadAt (agT rfl) rfl (by repeat (first | exact List.Mem.head _ | apply List.Mem.tail)) (hcell _ (by omega))) | ((show Ev _ _ _ _ _ _ _ (.assign _) _ _); first | exact ev_assign rfl) | ((show Ev _ _ _ _ _ _ _ (.binOp _ _ _ _ _) _ _); first | exact ev_lti rfl rfl | exact ev_gei rfl rfl | exact ev_add64 rfl rfl (by omega) | exact ev_sub64 rfl rfl (by omega) | exact ev_addK rfl rfl (by first | exact wrap64_in (by omega) | exact IntWalk.u8_in _ (by omega) | exact IntWalk.i32_in _ (by omega)) | exact ev_subK rfl rfl (by first | exact wrap64_in (by omega) | exact IntWalk.u8_in _ (by omega) | exact IntWalk.i32_in _ (by omega))) | ((show Ev _ _ _ _ _ _ _ (.call _) _ _); first | exact ev_len_slice (slT rfl) rfl) | ((show Ev _ _ _ _ _ _ _ (.indexAddr _ _ _) _ _); first | exact ev_indexAddr (slT rfl) (szT rfl) rfl rfl (by omega))))) | (refine wl_storeCell rfl rfl rfl rfl (szT rfl) (by repeat (first | exact Upd.here | apply Upd.there)) (by rw [digC_size]; simp; omega) (by simp; omega) ?_) | apply Wl.nil) | ((show W _ _ _ _ _ _ _ _ _); first | apply W.seq | apply W.region | apply W.block | apply W.blk | apply W.skip | (refine W.cond rfl ?_ ?_ <;> (intro h; try (exfalso; first | contradiction | omega | exact h rfl | exact h ⟨rfl, rfl⟩ | (simp_all; done))))))
      · refine W.again (i + 1, 1, (2 * es[k] + c - 10) :: res) ?_ ?_ (by repeat (first | exact SubL.nil | refine SubL.cons rfl ?_)) ?_
        · refine ⟨by simp only; omega, ?_⟩
          simp only
          rw [show es.length - (i + 1) = k by omega, hnext, show (2 * es[k] + c) / 10 = 1 by omega, show (2 * es[k] + c) % 10 = 2 * es[k] + c - 10 by omega]
        · simp only; omega
        · simp only
          rw [show es.length - (i + 1) = k by omega]
          exact hset _ _ _ (by omega) (by omega)
      · refine W.again (i + 1, 0, (2 * es[k] + c) :: res) ?_ ?_ (by repeat (first | exact SubL.nil | refine SubL.cons rfl ?_)) ?_
        · refine ⟨by simp only; omega, ?_⟩
          simp only
          rw [show es.length - (i + 1) = k by omega, hnext, show (2 * es[k] + c) / 10 = 0 by omega, show (2 * es[k] + c) % 10 = 2 * es[k] + c by omega]
        · simp only; omega
        · simp only
          rw [show es.length - (i + 1) = k by omega]
          exact hset _ _ _ (by omega) (by omega)
    · have hii : i = es.length := by omega
      subst hii
      rw [Nat.sub_self] at hdb ⊢
      rw [List.drop_zero] at hdb
      simp only [List.take_zero, List.nil_append]
      have hc1 : c ≤ 1 := by
        have := dbl_carry es hed
        rw [hdb] at this
        exact this
      repeat' (first | ((show Wl _ _ _ _ _ _ _ _ _ _); first | (apply Wl.ev rfl rfl; (focus (first | ((show Ev _ _ _ _ _ _ _ (.move _) _ _); first | exact ev_move rfl) | ((show Ev _ _ _ _ _ _ _ (.assign _) _ _); first | exact ev_assign rfl) | ((show Ev _ _ _ _ _ _ _ (.binOp _ _ _ _ _) _ _); first | exact (ev_or rfl rfl).to (or_ok m c (by omega) hc1) | exact ev_lti rfl rfl | exact ev_add64 rfl rfl (by omega) | exact ev_shl rfl rfl (by decide)) | ((show Ev _ _ _ _ _ _ _ (.convert _ _ _) _ _); first | exact ev_convK (dT rfl) (intT rfl) rfl (by first | exact wrap64_in (by omega) | exact IntWalk.u8_in _ (by omega) | exact IntWalk.i32_in _ (by omega)))))) | apply Wl.nil) | ((show W _ _ _ _ _ _ _ _ _); first | apply W.seq | (refine W.again (r + 1, 2 * m + c, res) ?_ ?_ (by repeat (first | exact SubL.nil | refine SubL.cons rfl ?_)) (by repeat (first | exact SubH.nil | apply SubH.keep | apply SubH.drop | exact List.Sublist.refl _))) | apply W.region | apply W.blk | (refine W.exit rfl ?_) | (refine W.cond rfl ?_ ?_ <;> (intro h; try (exfalso; first | contradiction | omega | exact h rfl | exact h ⟨rfl, rfl⟩ | (simp_all; done))))))
      · refine ⟨by simp only; omega, ?_, ?_, ?_, ?_⟩
        · simp only
          rw [Nat.pow_succ]; omega
        · have := dbl_len es
          rw [hdb] at this
          simp only at this ⊢
          omega
        · have := dbl_digit es
          rw [hdb] at this
          exact this
        · rw [← heq, show 17 - r = (17 - (r + 1)) + 1 by omega]
          simp only [binS, hdb]
      · simp only; omega
  · have h17 : r = 17 := by omega
    subst h17
    repeat' (first | ((show Wl _ _ _ _ _ _ _ _ _ _); first | (apply Wl.ev rfl rfl; (focus (first | ((show Ev _ _ _ _ _ _ _ (.move _) _ _); first | exact ev_move rfl) | ((show Ev _ _ _ _ _ _ _ (.assign _) _ _); first | exact ev_assign rfl) | ((show Ev _ _ _ _ _ _ _ (.binOp _ _ _ _ _) _ _); first | exact ev_lti rfl rfl)))) | apply Wl.nil) | ((show W _ _ _ _ _ _ _ _ _); first | apply W.seq | apply W.region | (refine W.exit rfl ?_) | (refine W.condF rfl ?_) | (refine W.ret1 rfl rfl ?_; intro w hs)))
    exact ret_eq hs (congrArg (fun k : Nat => Value.int .i64 (k : Int)) heq)
theorem binS_zero (n : Nat) (ds : List Nat) : binS 0 n ds = n := rfl
theorem binS_succ (r n : Nat) (ds : List Nat) : binS (r + 1) n ds = binS r (2 * n + (dbl ds).1) (dbl ds).2 := rfl
attribute [irreducible] binS
end Go.Proofs.YthhfandandfeeaaDoor
