/- Walks of functions of this seat, and what they compute: lemmas for the proofs of its statements. No condition. -/
import Derived.Test.YtbinaeemcidicaaGreatDoorZTypes
import Derived.Shelf.Strings.Search3
import Derived.Shelf.LaysM
import Derived.Shelf.Bits.Mul64
import Derived.Test.YtbinaeemcidicaaGreatDoorProg
set_option maxRecDepth 100000
set_option maxHeartbeats 16000000
namespace Go.Proofs.YtbinaeemcidicaaGreatDoor
open Go.PB Go.RowKit
attribute [local irreducible] Go.Calls
abbrev st (l : List UInt8) : Value := .string ⟨l.toArray⟩
theorem ret_eq {v u : Value} {w w' : World} {H : List Ent} (hs : St [] w w' H) (h : v = u) : Ending.returned v = .returned u ∧ Ext w w' := Go.PB.ret_eq hs h
theorem Give.to {v u : Value} {w : World} {f : FuncId} {args : Array Value} (h : Calls Tryz.prog f args w (Give v w)) (e : v = u) : Calls Tryz.prog f args w (Give u w) := e ▸ h
def rawS (n : Int) : Int := min (max n (-2147483648)) 2147483647
theorem rawS_range (n : Int) : -2147483648 ≤ rawS n ∧ rawS n ≤ 2147483647 := by unfold rawS; omega
theorem cut64_ok (x a b : Int) (w : World) : Calls Tryz.prog 161 #[.int .i64 x, .int .i64 a, .int .i64 b] w (Give (.int .i64 (min (max x a) b)) w) := by
 refine give_of_W (vs := [.int .i64 x, .int .i64 a, .int .i64 b]) Tryz.func161 rfl Tryz.ntmps161 (Nat.le_of_ble_eq_true rfl) (St.nil w _) ?_
 simp only [argL, Nat.reduceAdd, Nat.zero_add]
 repeat' (first | (apply gL; first | (apply Wl.ev rfl rfl; exact Zev) | apply Wl.nil) | (apply lW; first | apply W.seq | apply W.region | (refine Zba ?_; intro w hs)))
 exact ret_eq hs rfl
theorem cutI_ok (x a b : Int) (w : World) : Calls Tryz.prog 132 #[.int .i64 x, .int .i64 a, .int .i64 b] w (Give (.int .i64 (min (max x a) b)) w) := by
 refine give_of_W (vs := [.int .i64 x, .int .i64 a, .int .i64 b]) Tryz.func132 rfl Tryz.ntmps132 (Nat.le_of_ble_eq_true rfl) (St.nil w _) ?_
 simp only [argL, Nat.reduceAdd, Nat.zero_add]
 repeat' (first | (apply gL; first | (apply Wl.ev rfl rfl; exact Zev) | apply Wl.nil) | (apply lW; first | apply W.seq | apply W.region | (refine Zba ?_; intro w hs)))
 exact ret_eq hs rfl
theorem raw_ok (x : Int) (w : World) : Calls Tryz.prog 131 #[.int .i64 x] w (Give (.int .i32 (rawS x)) w) := by
 refine give_of_W (vs := [.int .i64 x]) Tryz.func131 rfl Tryz.ntmps131 (Nat.le_of_ble_eq_true rfl) (St.nil w _) ?_
 simp only [argL]
 repeat' (first | (apply gL; first | (apply Wl.ev rfl rfl; exact Zev) | (refine lD 161 ?_; refine wl_call0 rfl rfl has161 rfl (fun w _ => cut64_ok _ _ _ w) ?_) | apply Wl.nil) | (apply lW; first | apply W.seq | apply W.region | (refine Zba ?_; intro w hs)))
 exact ret_eq hs rfl
def ofS (n : Int) : Int := rawS (min (max n (-65536)) 65536 * 65536)
theorem of_ok (x : Int) (w : World) : Calls Tryz.prog 87 #[.int .i64 x] w (Give (.int .i32 (ofS x)) w) := by
 refine give_of_W (vs := [.int .i64 x]) Tryz.func87 rfl Tryz.ntmps87 (Nat.le_of_ble_eq_true rfl) (St.nil w _) ?_
 simp only [argL]
 repeat' (first | (apply gL; first | (apply Wl.ev rfl rfl; exact Zev) | (refine lD 132 ?_; refine wl_call0 rfl rfl has132 rfl (fun w _ => cutI_ok _ _ _ w) ?_) | (refine lD 131 ?_; refine wl_call0 rfl rfl has131 rfl (fun w _ => raw_ok _ w) ?_) | apply Wl.nil) | (apply lW; first | apply W.seq | apply W.region | (refine Zba ?_; intro w hs)))
 exact ret_eq hs (by rw [wrap64_in (by simp [IntKind.bits]; omega)]; rfl)
end Go.Proofs.YtbinaeemcidicaaGreatDoor
namespace Go.Proofs.YtbinaeemcidicaaGreatDoor
open Go.PB Go.RowKit
attribute [local irreducible] Go.Calls
theorem ixb : IxB Tryz.prog 124 := ⟨_, Tryz.func124, by kernel_rfl, by kernel_rfl, by kernel_rfl, by kernel_rfl⟩
theorem slIndexByte_ok (l : List UInt8) (c : Int) (w : World) : Calls Tryz.prog 84 #[st l, .int .u8 c] w (Give (.int .i64 (Lib.indexByte l c.toNat.toUInt8)) w) := by
 refine give_of_W (vs := [st l, .int .u8 c]) Tryz.func84 rfl Tryz.ntmps84 (Nat.le_of_ble_eq_true rfl) (St.nil w _) ?_
 simp only [argL, Nat.zero_add]
 repeat' (first | (apply gL; first | (apply Wl.ev rfl rfl; (focus (first | exact ev_indexByte ixb rfl rfl | exact Zev))) | apply Wl.nil) | (apply lW; first | apply W.seq | apply W.region | (refine Zba ?_; intro w hs)))
 exact ret_eq hs rfl
theorem indexByte_ok (l : List UInt8) (c : Int) (w : World) : Calls Tryz.prog 44 #[st l, .int .u8 c] w (Give (.int .i64 (Lib.indexByte l c.toNat.toUInt8)) w) := by
 refine give_of_W (vs := [st l, .int .u8 c]) Tryz.func44 rfl Tryz.ntmps44 (Nat.le_of_ble_eq_true rfl) (St.nil w _) ?_
 simp only [argL, Nat.zero_add]
 repeat' (first | (apply gL; first | (apply Wl.ev rfl rfl; exact Zev) | (refine lD 84 ?_; refine wl_call0 rfl rfl has84 rfl (fun w _ => slIndexByte_ok _ _ w) ?_) | apply Wl.nil) | (apply lW; first | apply W.seq | apply W.region | (refine Zba ?_; intro w hs)))
 exact ret_eq hs rfl
theorem index1_ok (l : List UInt8) (c : UInt8) (w : World) : Calls Tryz.prog 85 #[st l, st [c]] w (Give (.int .i64 (Lib.indexByte l c)) w) := by
 refine give_of_W (vs := [st l, st [c]]) Tryz.func85 rfl Tryz.ntmps85 (Nat.le_of_ble_eq_true rfl) (St.nil w _) ?_
 simp only [argL, Nat.zero_add]
 repeat' (first | (apply gL; first | (apply Wl.ev rfl rfl; (focus (first | exact ev_index_string (strT rfl) rfl rfl Zgh | exact Zev))) | (refine lD 84 ?_; refine wl_call0 rfl rfl has84 rfl (fun w _ => slIndexByte_ok _ _ w) ?_) | apply Wl.nil) | (apply lW; first | apply W.seq | apply W.region | apply W.block | (refine Zbk ?_) | (refine Zz ?_ ?_ <;> (intro h; try exact Zg)) | (refine Zba ?_; intro w hs)))
 ·subst h
  exact ret_eq hs (by simp [Lib.indexByte])
 ·exact ret_eq hs Zgh
theorem indexByte_le (l : List UInt8) (c : UInt8) : Lib.indexByte l c < l.length ∧ -1 ≤ Lib.indexByte l c := by
 induction l with
 | nil => simp [Lib.indexByte]
 | cons b l ih =>
  simp only [Lib.indexByte, List.length_cons]
  split
  ·omega
  ·split
   ·omega
   ·omega
def cutS (l : List UInt8) (c : UInt8) : List UInt8 × List UInt8 × Bool :=
 if 0 ≤ Lib.indexByte l c then (l.take (Lib.indexByte l c).toNat, l.drop ((Lib.indexByte l c).toNat + 1), true) else (l, [], false)
theorem slCut_ok (l : List UInt8) (c : UInt8) (hl : l.length < 4611686018427387904) (w : World) : Calls Tryz.prog 160 #[st l, st [c]] w (Give (.tuple #[st (cutS l c).1, st (cutS l c).2.1, .bool (cutS l c).2.2]) w) := by
 refine give_of_W (vs := [st l, st [c]]) Tryz.func160 rfl Tryz.ntmps160 (Nat.le_of_ble_eq_true rfl) (St.nil w _) ?_
 simp only [argL, Nat.zero_add]
 have hb := indexByte_le l c
 repeat' (first | (apply gL; first | (apply Wl.ev rfl rfl; (focus (first | exact ev_add64 (j := 1) rfl rfl Zf7 | exact Zev))) | (refine lD 85 ?_; refine wl_call0 rfl rfl has85 rfl (fun w _ => index1_ok _ _ w) ?_) | apply Wl.nil) | (apply gQ; first | (apply Wq.ev rfl rfl; (focus (first | exact ev_add64 (j := 1) rfl rfl Zf7 | exact Zev))) | apply Wq.nil) | (apply lW; first | apply W.seq | (refine Zgf ?_) | apply W.region | apply W.skip | (refine Zz ?_ ?_ <;> (intro h; try exact Zg)) | (refine W.ret3 rfl rfl rfl rfl ?_; intro w hs)))
 ·exact ret_eq hs (by
   have e : (Lib.indexByte l c + 1).toNat = (Lib.indexByte l c).toNat + 1 := by omega
   simp [cutS, h, e])
 ·exact ret_eq hs (by simp [cutS, h])
theorem cut_ok (l : List UInt8) (c : UInt8) (hl : l.length < 4611686018427387904) (w : World) : Calls Tryz.prog 129 #[st l, st [c]] w (Give (.tuple #[st (cutS l c).1, st (cutS l c).2.1, .bool (cutS l c).2.2]) w) := by
 refine give_of_W (vs := [st l, st [c]]) Tryz.func129 rfl Tryz.ntmps129 (Nat.le_of_ble_eq_true rfl) (St.nil w _) ?_
 simp only [argL, Nat.zero_add]
 repeat' (first | (apply gL; first | (apply Wl.ev rfl rfl; exact Zev) | (refine lD 160 ?_; refine wl_call0 rfl rfl has160 rfl (fun w _ => slCut_ok _ _ hl w) ?_) | apply Wl.nil) | (apply lW; first | apply W.seq | apply W.region | (refine W.ret3 rfl rfl rfl rfl ?_; intro w hs)))
 exact ret_eq hs rfl
theorem hasPrefix1_ok (l : List UInt8) (c : UInt8) (w : World) : Calls Tryz.prog 179 #[st l, st [c]] w (Give (.bool (decide (l.head? = some c))) w) := by
 refine give_of_W (vs := [st l, st [c]]) Tryz.func179 rfl Tryz.ntmps179 (Nat.le_of_ble_eq_true rfl) (St.nil w _) ?_
 simp only [argL, Nat.zero_add]
 match l with
 | [] =>
  repeat' (first | (apply gL; first | (apply Wl.ev rfl rfl; exact Zev) | apply Wl.nil | (refine Zbr ?_)) | (apply lW; first | apply W.seq | apply W.region | (refine Zba ?_; intro w hs)))
  exact ret_eq hs rfl
 | d :: l =>
  repeat' (first | (apply gL; first | (apply Wl.ev rfl rfl; (focus (first | exact ev_slice_string_hi (strT rfl) rfl rfl Zja | exact Zev))) | apply Wl.nil | (refine Zbr ?_) | ((fail_if_success (apply Wl.chk rfl)); refine Wl.split rfl rfl ?_ ?_ <;> (intro h; try exact Zg))) | (apply lW; first | apply W.seq | apply W.region | (refine Zba ?_; intro w hs)))
  ·exact ret_eq hs (congrArg Value.bool (decide_eq_decide.2 Zgh))
  ·exfalso; simp at h; omega
theorem slCutPrefix1_ok (l : List UInt8) (c : UInt8) (w : World) : Calls Tryz.prog 159 #[st l, st [c]] w (Give (.tuple #[st (if l.head? = some c then l.tail else l), .bool (decide (l.head? = some c))]) w) := by
 refine give_of_W (vs := [st l, st [c]]) Tryz.func159 rfl Tryz.ntmps159 (Nat.le_of_ble_eq_true rfl) (St.nil w _) ?_
 simp only [argL, Nat.zero_add]
 by_cases hp : l.head? = some c
 ·obtain ⟨l', rfl⟩ : ∃ l', l = c :: l' := by
   cases l with
   | nil => simp at hp
   | cons d l => simp at hp; exact ⟨l, by rw [hp]⟩
  repeat' (first | (apply gL; first | (apply Wl.ev rfl rfl; (focus (first | exact ev_slice_string_lo (strT rfl) rfl rfl Zja | exact Zev))) | (refine lD 179 ?_; refine wl_call0 rfl rfl has179 rfl (fun w _ => Give.to (hasPrefix1_ok _ _ w) (congrArg Value.bool (decide_eq_true hp))) ?_) | apply Wl.nil) | (apply lW; first | apply W.seq | apply W.region | apply W.skip | (refine Zbg ?_) | (refine Zc1 ?_; intro w hs)))
  exact ret_eq hs Zgh
 ·repeat' (first | (apply gL; first | (apply Wl.ev rfl rfl; exact Zev) | (refine lD 179 ?_; refine wl_call0 rfl rfl has179 rfl (fun w _ => Give.to (hasPrefix1_ok _ _ w) (congrArg Value.bool (decide_eq_false hp))) ?_) | apply Wl.nil) | (apply lW; first | apply W.seq | apply W.region | (refine Zbk ?_) | (refine Zc1 ?_; intro w hs)))
  exact ret_eq hs (by simp [hp])
theorem cutPrefix1_ok (l : List UInt8) (c : UInt8) (w : World) : Calls Tryz.prog 128 #[st l, st [c]] w (Give (.tuple #[st (if l.head? = some c then l.tail else l), .bool (decide (l.head? = some c))]) w) := by
 refine give_of_W (vs := [st l, st [c]]) Tryz.func128 rfl Tryz.ntmps128 (Nat.le_of_ble_eq_true rfl) (St.nil w _) ?_
 simp only [argL, Nat.zero_add]
 repeat' (first | (apply gL; first | (apply Wl.ev rfl rfl; exact Zev) | (refine lD 159 ?_; refine wl_call0 rfl rfl has159 rfl (fun w _ => slCutPrefix1_ok _ _ w) ?_) | apply Wl.nil) | (apply lW; first | apply W.seq | apply W.region | (refine Zc1 ?_; intro w hs)))
 exact ret_eq hs rfl
end Go.Proofs.YtbinaeemcidicaaGreatDoor
namespace Go.Proofs.YtbinaeemcidicaaGreatDoor
open Go.PB Go.RowKit
attribute [local irreducible] Go.Calls
def dbl : List Nat → Nat × List Nat
 | [] => (0, [])
 | d :: ds => ((2 * d + (dbl ds).1) / 10, (2 * d + (dbl ds).1) % 10 :: (dbl ds).2)
theorem dbl_len : ∀ ds : List Nat, (dbl ds).2.length = ds.length
 | [] => rfl
 | d :: ds => by simp [dbl, dbl_len ds]
theorem dbl_digit : ∀ (ds : List Nat), ∀ d ∈ (dbl ds).2, d < 10
 | [], d, h => by simp [dbl] at h
 | e :: ds, d, h => by
  simp only [dbl, List.mem_cons] at h
  rcases h with rfl | h
  ·omega
  ·exact dbl_digit ds d h
theorem dbl_carry : ∀ (ds : List Nat), (∀ d ∈ ds, d < 10) → (dbl ds).1 ≤ 1
 | [], _ => by simp [dbl]
 | d :: ds, h => by
  have h1 := dbl_carry ds (fun e he => h e (by simp [he]))
  have h2 := h d Zgh
  simp only [dbl]
  omega
def binS : Nat → Nat → List Nat → Nat
 | 0, n, _ => n
 | r + 1, n, ds => binS r (2 * n + (dbl ds).1) (dbl ds).2
theorem binS_lt : ∀ (r n : Nat) (ds : List Nat), (∀ d ∈ ds, d < 10) → binS r n ds < (n + 1) * 2 ^ r
 | 0, n, ds, _ => by simp [binS]
 | r + 1, n, ds, h => by
  have h1 := binS_lt r (2 * n + (dbl ds).1) (dbl ds).2 (dbl_digit ds)
  have h2 := dbl_carry ds h
  simp only [binS]
  refine Nat.lt_of_lt_of_le h1 ?_
  rw [Nat.pow_succ, Nat.mul_comm (2 ^ r) 2, ← Nat.mul_assoc]
  exact Nat.mul_le_mul_right _ Zf7
def digC (ds : List Nat) (z : Nat) : Array Value := (ds.map (fun d => Value.int .u8 (48 + d : Nat)) ++ List.replicate z (Value.int .u8 0)).toArray
theorem digC_size (ds : List Nat) (z : Nat) : (digC ds z).size = ds.length + z := by simp [digC]
theorem digC_get (ds : List Nat) (z i : Nat) (h : i < ds.length) : (digC ds z)[i]? = some (.int .u8 (48 + ds[i] : Nat)) := by
 simp [digC, List.getElem?_append_left, h]
theorem digC_set (xs ys : List Nat) (d v z : Nat) : (digC (xs ++ d :: ys) z).setIfInBounds xs.length (.int .u8 (48 + v : Nat)) = digC (xs ++ v :: ys) z := by
 apply Array.ext'
 simp [digC]
def digB (ds : List Nat) : List UInt8 := ds.map fun d => (48 + d).toUInt8
theorem digB_len (ds : List Nat) : (digB ds).length = ds.length := by simp [digB]
theorem digB_cells (ds : List Nat) (h : ∀ d ∈ ds, d < 10) (z : Nat) : (bytV (digB ds) ++ List.replicate z (Value.int .u8 0)).toArray = digC ds z := by
 have e : bytV (digB ds) = ds.map fun d => Value.int .u8 (48 + d : Nat) := by
  unfold bytV digB
  rw [List.map_map]
  refine List.map_congr_left fun d hd => ?_
  have := h d hd
  simp only [Function.comp, Value.int.injEq, true_and]
  congr 1
  show ((48 + d).toUInt8).toNat = 48 + d
  simp [Nat.toUInt8, UInt8.toNat_ofNat']
  omega
 rw [e]
 rfl
theorem or_ok (n c : Nat) (hn : n < 4611686018427387904) (hc : c ≤ 1) : Value.int .i64 (IntKind.i64.wrap ((BitVec.ofInt IntKind.i64.bits (IntKind.i64.wrap ((n : Int) * 2 ^ (min (Int.toNat 1) IntKind.i64.bits))) ||| BitVec.ofInt IntKind.i64.bits (c : Int)).toNat : Int)) = .int .i64 ((2 * n + c : Nat) : Int) := by
 have e1 : (2 : Int) ^ (min (Int.toNat 1) IntKind.i64.bits) = 2 := by decide
 rw [e1, show IntKind.i64.wrap ((n : Int) * 2) = (n : Int) * 2 from wrap64_in Zf7]
 have e2 : (BitVec.ofInt IntKind.i64.bits ((n : Int) * 2)).toNat = n <<< 1 := by
  rw [BitVec.toNat_ofInt, Nat.shiftLeft_eq]
  simp only [IntKind.bits]
  omega
 have e3 : (BitVec.ofInt IntKind.i64.bits (c : Int)).toNat = c := by
  rw [BitVec.toNat_ofInt]
  simp only [IntKind.bits]
  omega
 rw [BitVec.toNat_or, e2, e3, ← Nat.shiftLeft_add_eq_or_of_lt Zf7, Nat.shiftLeft_eq]
 congr 1
 rw [wrap64_in Zf7]
 omega
theorem binary_ok (ds : List Nat) (hd : ∀ d ∈ ds, d < 10) (hl : ds.length < 100000) (w : World) : Calls Tryz.prog 130 #[st (digB ds)] w (Give (.int .i64 (binS 17 0 ds : Nat)) w) := by
 refine give_of_W (vs := [st (digB ds)]) Tryz.func130 rfl Tryz.ntmps130 (Nat.le_of_ble_eq_true rfl) (St.nil w _) ?_
 simp only [argL]
 repeat' (first | (apply gL; first | (apply Wl.ev rfl rfl; exact Zev) | apply Wl.nil | (refine wl_strBytes rfl rfl (strT rfl) (slT rfl) (intT rfl) rfl ?_; intro b cap hcap)) | (apply lW; first | apply W.seq | apply W.region | apply W.block))
 rw [digB_len] at hcap ⊢
 rw [digB_cells ds hd]
 obtain ⟨z, hz⟩ : ∃ z, cap - ds.length = z := ⟨_, rfl⟩
 rw [hz]
 refine W.loop (X := Nat × Nat × List Nat) (fun x => [(3, .slice (some ⟨b, 0, none⟩) ds.length cap), (4, .int .i64 (x.2.1 : Nat)), (11, .int .i64 (x.1 : Nat))]) (fun x => [⟨b, true, .cells (digC x.2.2 z) 5 (cap, cap + 1)⟩])
  (fun x => x.1 ≤ 17 ∧ x.2.1 < 2 ^ x.1 ∧ x.2.2.length = ds.length ∧ (∀ d ∈ x.2.2, d < 10) ∧ binS (17 - x.1) x.2.1 x.2.2 = binS 17 0 ds) (fun x => 17 - x.1) (0, 0, ds) ⟨by omega, by simp, rfl, hd, rfl⟩ Zn Ze ?_
 rintro ⟨r, m, es⟩ ⟨hr, hm, hel, hed, heq⟩
 simp only at hr hm hel hed heq ⊢
 have hm2 : m < 131072 := Nat.lt_of_lt_of_le hm (Nat.pow_le_pow_right Zf7 hr)
 by_cases hlt : r < 17
 ·repeat' (first | (apply gL; first | (apply Wl.ev rfl rfl; exact Zev) | apply Wl.nil) | (apply lW; first | apply W.seq | apply W.region | apply W.block | apply W.skip | (refine Zz ?_ ?_ <;> (intro h; try exact Zg))))
  refine W.loop (X := Nat × Nat × List Nat) (fun x => [(3, .slice (some ⟨b, 0, none⟩) ds.length cap), (4, .int .i64 (m : Nat)), (5, .int .u8 (x.2.1 : Nat)), (11, .int .i64 (r : Nat)), (14, .int .i64 (ds.length : Nat)), (15, .int .i64 (x.1 : Nat))]) (fun x => [⟨b, true, .cells (digC (es.take (es.length - x.1) ++ x.2.2) z) 5 (cap, cap + 1)⟩])
   (fun x => x.1 ≤ es.length ∧ dbl (es.drop (es.length - x.1)) = (x.2.1, x.2.2)) (fun x => es.length - x.1) (0, 0, []) ⟨by omega, by simp [dbl]⟩ Zn (by simp only [Nat.sub_zero, List.take_length, List.append_nil]; exact Ze) ?_
  rintro ⟨i, c, res⟩ ⟨hi, hdb⟩
  simp only at hi hdb ⊢
  by_cases hil : i < es.length
  ·obtain ⟨k, hk⟩ : ∃ k, k = es.length - 1 - i := ⟨_, rfl⟩
   have hk1 : es.length - i = k + 1 := by omega
   have hkl : k < es.length := by omega
   rw [hk1] at hdb ⊢
   have hd9 : es[k] < 10 := hed _ (List.getElem_mem hkl)
   have hc1 : c ≤ 1 := by
    have := dbl_carry (es.drop (k + 1)) (fun d h => hed d (List.mem_of_mem_drop h))
    rw [hdb] at this
    exact this
   have hnext : dbl (es.drop k) = ((2 * es[k] + c) / 10, (2 * es[k] + c) % 10 :: res) := by
    rw [List.drop_eq_getElem_cons hkl]
    simp [dbl, hdb]
   have hrl : res.length = es.length - (k + 1) := by
    have := dbl_len (es.drop (k + 1))
    rw [hdb] at this
    simpa using this
   have hsplit : es.take (k + 1) = es.take k ++ [es[k]] := List.take_succ_eq_append_getElem hkl
   have hcur : es.take (k + 1) ++ res = es.take k ++ es[k] :: res := by rw [hsplit, List.append_assoc]; rfl
   have htl : (es.take k).length = k := by simp; omega
   have hcell : ∀ off, off = k → (digC (es.take (k + 1) ++ res) z)[off]? = some (.int .u8 ((48 + es[k] : Nat) : Int)) := fun off ho => by
    subst ho
    rw [digC_get _ _ _ Zja]
    simp [hcur, htl]
   have hset : ∀ (off : Nat) (x : Int) (v : Nat), off = k → x = ((48 + v : Nat) : Int) → SubH [⟨b, true, .cells (digC (es.take k ++ v :: res) z) 5 (cap, cap + 1)⟩] [⟨b, true, .cells ((digC (es.take (k + 1) ++ res) z).setIfInBounds off (.int .u8 x)) 5 (cap, cap + 1)⟩] := fun off x v ho hx => by
    subst ho
    subst hx
    have := digC_set (es.take off) res es[off] v z
    rw [htl] at this
    rw [hcur, this]
    exact List.Sublist.refl _
   repeat' (first | (apply gL; first | (apply Wl.ev rfl rfl; (focus (first | exact ev_loadAt (agT rfl) rfl Zd (hcell _ Zf7) | exact Zev))) | (refine wl_storeCell rfl rfl rfl rfl (szT rfl) Zf (by rw [digC_size]; simp; omega) Zja ?_) | apply Wl.nil) | (apply lW; first | apply W.seq | apply W.region | apply W.block | apply W.blk | apply W.skip | (refine Zz ?_ ?_ <;> (intro h; try exact Zg))))
   ·refine W.again (i + 1, 1, (2 * es[k] + c - 10) :: res) ?_ ?_ Zn ?_
    ·refine ⟨by simp only; omega, ?_⟩
     simp only
     rw [show es.length - (i + 1) = k by omega, hnext, show (2 * es[k] + c) / 10 = 1 by omega, show (2 * es[k] + c) % 10 = 2 * es[k] + c - 10 by omega]
    ·simp only; omega
    ·simp only
     rw [show es.length - (i + 1) = k by omega]
     exact hset _ _ _ Zf7 Zf7
   ·refine W.again (i + 1, 0, (2 * es[k] + c) :: res) ?_ ?_ Zn ?_
    ·refine ⟨by simp only; omega, ?_⟩
     simp only
     rw [show es.length - (i + 1) = k by omega, hnext, show (2 * es[k] + c) / 10 = 0 by omega, show (2 * es[k] + c) % 10 = 2 * es[k] + c by omega]
    ·simp only; omega
    ·simp only
     rw [show es.length - (i + 1) = k by omega]
     exact hset _ _ _ Zf7 Zf7
  ·have hii : i = es.length := by omega
   subst hii
   rw [Nat.sub_self] at hdb ⊢
   rw [List.drop_zero] at hdb
   simp only [List.take_zero, List.nil_append]
   have hc1 : c ≤ 1 := by
    have := dbl_carry es hed
    rw [hdb] at this
    exact this
   repeat' (first | (apply gL; first | (apply Wl.ev rfl rfl; (focus (first | (apply gBin; first | exact (ev_or rfl rfl).to (or_ok m c Zf7 hc1)) | exact Zev))) | apply Wl.nil) | (apply lW; first | apply W.seq | (refine W.again (r + 1, 2 * m + c, res) ?_ ?_ Zn Ze) | apply W.region | apply W.blk | (refine Zcm ?_) | (refine Zz ?_ ?_ <;> (intro h; try exact Zg))))
   ·refine ⟨by simp only; omega, ?_, ?_, ?_, ?_⟩
    ·simp only
     rw [Nat.pow_succ]; omega
    ·have := dbl_len es
     rw [hdb] at this
     simp only at this ⊢
     omega
    ·have := dbl_digit es
     rw [hdb] at this
     exact this
    ·rw [← heq, show 17 - r = (17 - (r + 1)) + 1 by omega]
     simp only [binS, hdb]
   ·simp only; omega
 ·have h17 : r = 17 := by omega
  subst h17
  repeat' (first | (apply gL; first | (apply Wl.ev rfl rfl; exact Zev) | apply Wl.nil) | (apply lW; first | apply W.seq | apply W.region | (refine Zcm ?_) | (refine Zbg ?_) | (refine Zba ?_; intro w hs)))
  exact ret_eq hs (congrArg (fun k : Nat => Value.int .i64 (k : Int)) heq)
attribute [irreducible] binS
end Go.Proofs.YtbinaeemcidicaaGreatDoor
namespace Go.Proofs.YtbinaeemcidicaaGreatDoor
open Go.PB Go.RowKit
attribute [local irreducible] Go.Calls
def isD (b : UInt8) : Prop := 48 ≤ b.toNat ∧ b.toNat ≤ 57
instance isDD (b : UInt8) : Decidable (isD b) := by unfold isD; infer_instance
def digs (l : List UInt8) : List Nat := l.map fun b => b.toNat - 48
theorem digs_back {l : List UInt8} (h : ∀ b ∈ l, isD b) : digB (digs l) = l := by
 unfold digB digs
 rw [List.map_map]
 conv => rhs; rw [← List.map_id l]
 refine List.map_congr_left fun b hb => ?_
 have := h b hb
 unfold isD at this
 simp only [Function.comp, id]
 apply UInt8.toNat_inj.1
 simp [Nat.toUInt8, UInt8.toNat_ofNat']
 omega
theorem digs_lt {l : List UInt8} (h : ∀ b ∈ l, isD b) : ∀ d ∈ digs l, d < 10 := fun d hd => by
 obtain ⟨b, hb, rfl⟩ := List.mem_map.1 hd
 have := h b hb
 unfold isD at this
 omega
theorem digs_len (l : List UInt8) : (digs l).length = l.length := by simp [digs]
def wholeS (top : Nat) (l : List UInt8) : Nat := l.foldl (fun n b => min (n * 10 + (b.toNat - 48)) top) 0
theorem wholeS_le (top : Nat) (l : List UInt8) : wholeS top l ≤ top := by
 have : ∀ (l : List UInt8) (n : Nat), n ≤ top → l.foldl (fun n b => min (n * 10 + (b.toNat - 48)) top) n ≤ top := by
  intro l
  induction l with
  | nil => intro n h; exact h
  | cons b l ih => intro n h; exact ih _ (Nat.min_le_right _ _)
 exact this l 0 (Nat.zero_le _)
theorem wholeS_snoc (top : Nat) (l : List UInt8) (b : UInt8) : wholeS top (l ++ [b]) = min (wholeS top l * 10 + (b.toNat - 48)) top := by simp [wholeS]
def parseS (l : List UInt8) : Int × Int :=
 if 40 < l.length then (0, 3)
 else
  let t := if l.head? = some 45 then l.tail else l
  let c := cutS t 46
  if c.1 ++ c.2.1 = [] then (0, 120)
  else if ¬∀ b ∈ c.1 ++ c.2.1, isD b then (0, 120)
  else
   let m : Nat := (wholeS 65536 c.1 * 131072 + binS 17 0 (digs c.2.1) + 1) / 2
   (rawS (if l.head? = some 45 then -(m : Int) else m), 0)
theorem shl17_ok (n : Nat) (h : n ≤ 65536) : Value.int .i64 (IntKind.i64.wrap ((n : Int) * 2 ^ (min (Int.toNat 17) IntKind.i64.bits))) = .int .i64 ((n * 131072 : Nat) : Int) := by
 have e1 : (2 : Int) ^ (min (Int.toNat 17) IntKind.i64.bits) = 131072 := by decide
 rw [e1, wrap64_in Zf7]
 congr 1
theorem shr1_ok (m k : Nat) : Value.int .i64 (((m : Int) + (k : Int) + 1).fdiv (2 ^ (min (Int.toNat 1) IntKind.i64.bits))) = .int .i64 (((m + k + 1) / 2 : Nat) : Int) := by
 have e1 : (2 : Int) ^ (min (Int.toNat 1) IntKind.i64.bits) = 2 := by decide
 rw [e1, Int.fdiv_eq_ediv_of_nonneg _ Zf7]
 congr 1
abbrev res2i (r : Int × Int) : Value := .tuple #[.int .i32 r.1, .int .i64 r.2]
theorem parse_ok (l : List UInt8) (hlen : l.length < 4611686018427387904) (w : World) : Calls Tryz.prog 86 #[st l] w (Give (res2i (parseS l)) w) := by
 refine give_of_W (vs := [st l]) Tryz.func86 rfl Tryz.ntmps86 (Nat.le_of_ble_eq_true rfl) (St.nil w _) ?_
 simp only [argL]
 by_cases hl : l.length ≤ 40
 ·obtain ⟨t, ht⟩ : ∃ t, (if l.head? = some 45 then l.tail else l) = t := ⟨_, rfl⟩
  have htl : t.length ≤ 40 := by
   rw [← ht]
   split
   ·simp; omega
   ·omega
  obtain ⟨wh, pa, fo, hc⟩ : ∃ wh pa fo, cutS t 46 = (wh, pa, fo) := ⟨_, _, _, rfl⟩
  have hwp : wh.length ≤ 40 ∧ pa.length ≤ 40 := by
   unfold cutS at hc
   split at hc
   ·cases hc
    simp
    omega
   ·cases hc
    exact ⟨htl, by simp⟩
  have hres : parseS l = if wh ++ pa = [] then (0, 120) else if ¬∀ b ∈ wh ++ pa, isD b then (0, 120) else (rawS (if l.head? = some 45 then -(((wholeS 65536 wh * 131072 + binS 17 0 (digs pa) + 1) / 2 : Nat) : Int) else ((wholeS 65536 wh * 131072 + binS 17 0 (digs pa) + 1) / 2 : Nat)), 0) := by
   unfold parseS
   rw [if_neg Zf7]
   simp only [ht, hc]
  obtain ⟨mi, hmi⟩ : ∃ mi : Bool, decide (l.head? = some 45) = mi := ⟨_, rfl⟩
  repeat' (first | (apply gL; first | (apply Wl.ev rfl rfl; exact Zev) | (refine lD 128 ?_; refine wl_call0 rfl rfl has128 rfl (fun w _ => (show Calls _ _ _ _ (Give (.tuple #[st t, .bool mi]) w) from Give.to (cutPrefix1_ok l 45 w) (by rw [ht, hmi]))) ?_) | (refine lD 129 ?_; refine wl_call0 rfl rfl has129 rfl (fun w _ => (show Calls _ _ _ _ (Give (.tuple #[st wh, st pa, .bool fo]) w) from Give.to (cut_ok t 46 Zf7 w) (by rw [hc]))) ?_) | apply Wl.nil | (refine Zhl ?_; intro b)) | (apply lW; first | apply W.seq | apply W.region | apply W.block | apply W.skip | apply W.label | apply W.scope0 | (refine Zz ?_ ?_ <;> (intro h; try exact Zg)) | (refine Zc1 ?_; intro w hs)))
  ·exact ret_eq hs (by rw [hres, if_pos h])
  ·have hne := h
   obtain ⟨s, hsd⟩ : ∃ s, wh ++ pa = s := ⟨_, rfl⟩
   rw [hsd] at hres hne ⊢
   have hstep : ∀ pos, pos < s.length → isD (s.getD pos 0) → (∀ x ∈ s.take pos, isD x) → ∀ x ∈ s.take (pos + 1), isD x := fun pos hlt hb hpre => take_succ_all hlt hpre (by simpa [List.getD, hlt] using hb)
   by_cases hall : ∀ x ∈ s, isD x
   ·refine W.loop (X := Nat) (fun _ => [(5, .bool mi), (6, st wh), (7, st pa), (9, .bool false), (36, .pointer (some ⟨b, 0, none⟩))]) (fun pos => [⟨b, true, sobj s pos⟩]) (fun pos => pos ≤ s.length) (fun pos => s.length - pos) 0 (Nat.zero_le _) Zn Ze ?_
    intro pos hpos
    by_cases hlt : pos < s.length
    ·have hb : isD (s.getD pos 0) := hall _ (by simp [List.getD, hlt])
     unfold isD at hb
     have hdec := decode_low hlt Zf7
     repeat' (first | (apply gL; first | (apply Wl.ev rfl rfl; exact Zev) | (refine Zhd ?_) | apply Wl.nil | ((fail_if_success (apply Wl.chk rfl)); refine Wl.split rfl rfl ?_ ?_ <;> (intro h; try exact Zg))) | (apply lW; first | apply W.seq | (refine W.again (pos + 1) ?_ ?_ Zn Ze) | apply W.region | apply W.block | apply W.blk | apply W.skip | (refine Zbk ?_) | (refine Zz ?_ ?_ <;> (intro h; try exact Zg))))
     ·omega
     ·omega
    ·repeat' (first | (apply gL; first | (apply Wl.ev rfl rfl; exact Zev) | apply Wl.nil | (refine Zhl ?_; intro b)) | (apply lW; first | apply W.seq | apply W.region | apply W.block | apply W.skip | (refine Zcm ?_) | (refine Zbg ?_)))
     have hwd : ∀ x ∈ wh, isD x := fun x hx => hall x (by rw [← hsd]; simp [hx])
     have hpd : ∀ x ∈ pa, isD x := fun x hx => hall x (by rw [← hsd]; simp [hx])
     refine W.loop (X := Nat) (fun pos => [(5, .bool mi), (7, st pa), (12, .int .i64 ((wholeS 65536 (wh.take pos) : Nat) : Int)), (48, .pointer (some ⟨b, 0, none⟩))]) (fun pos => [⟨b, true, sobj wh pos⟩]) (fun pos => pos ≤ wh.length) (fun pos => wh.length - pos) 0 (Nat.zero_le _) Zn Ze ?_
     intro pos hpos
     have hle := wholeS_le 65536 (wh.take pos)
     by_cases hlt : pos < wh.length
     ·have hb : isD (wh.getD pos 0) := hwd _ (by simp [List.getD, hlt])
      unfold isD at hb
      have hdec := decode_low hlt Zf7
      have e1 : wh.take (pos + 1) = wh.take pos ++ [wh.getD pos 0] := by rw [List.take_succ_eq_append_getElem hlt]; simp [List.getD, hlt]
      have e2 : ((wholeS 65536 (wh.take (pos + 1)) : Nat) : Int) = min ((wholeS 65536 (wh.take pos) : Int) * 10 + (((wh.getD pos 0).toNat : Int) - 48)) 65536 := by
       rw [e1, wholeS_snoc]; omega
      repeat' (first | (apply gL; first | (apply Wl.ev rfl rfl; exact Zev) | (refine Zhd ?_) | apply Wl.nil) | (apply lW; first | apply W.seq | (refine W.again (pos + 1) ?_ ?_ (by rw [e2]; exact Zn) Ze) | apply W.region | apply W.block | apply W.blk | apply W.skip | (refine Zbk ?_)))
      ·omega
      ·omega
     ·have hpe : wh.take pos = wh := List.take_of_length_le Zf7
      rw [hpe] at hle ⊢
      have hbin := binS_lt 17 0 (digs pa) (digs_lt hpd)
      have hback := digs_back hpd
      obtain ⟨B, hB⟩ : ∃ B, binS 17 0 (digs pa) = B := ⟨_, rfl⟩
      rw [hB] at hres hbin
      obtain ⟨N, hN⟩ : ∃ N, wholeS 65536 wh = N := ⟨_, rfl⟩
      rw [hN] at hres hle ⊢
      repeat' (first | (apply gL; first | (apply Wl.ev rfl rfl; (focus (first | (apply gBin; first | exact (ev_shl rfl rfl Zf6).to (shl17_ok _ hle) | exact (ev_shr rfl rfl Zf6).to (shr1_ok _ _)) | exact Zev))) | (refine lD 130 ?_; refine wl_call0 rfl rfl has130 rfl (fun w _ => (show Calls _ _ #[st pa] w (Give (.int .i64 (B : Nat)) w) from by have h := binary_ok (digs pa) (digs_lt hpd) (by rw [digs_len]; omega) w; rw [hback, hB] at h; exact h)) ?_) | (refine lD 131 ?_; refine wl_call0 rfl rfl has131 rfl (fun w _ => raw_ok _ w) ?_) | apply Wl.nil) | (apply lW; first | apply W.seq | apply W.region | apply W.skip | (refine Zcm ?_) | (refine Zbg ?_) | (refine Zfs ?_ ?_ <;> (intro h; try exact Zca)) | (refine Zc1 ?_; intro w hs)))
      ·exact ret_eq hs (by
        rw [h] at hmi
        rw [hres, if_neg hne, if_neg (not_not_intro hall), if_pos (of_decide_eq_true hmi)])
      ·exact ret_eq hs (by
        rw [h] at hmi
        rw [hres, if_neg hne, if_neg (not_not_intro hall), if_neg (of_decide_eq_false hmi)])
   ·refine W.loop (X := Nat) (fun _ => [(9, .bool false), (36, .pointer (some ⟨b, 0, none⟩))]) (fun pos => [⟨b, true, sobj s pos⟩]) (fun pos => pos ≤ s.length ∧ ∀ x ∈ s.take pos, isD x) (fun pos => s.length - pos) 0 ⟨Nat.zero_le _, by simp⟩ Zn Ze ?_
    rintro pos ⟨hpos, hpre⟩
    have hlt : pos < s.length := by
     refine Nat.lt_of_not_le fun hle => hall ?_
     rwa [List.take_of_length_le hle] at hpre
    by_cases hb : isD (s.getD pos 0)
    ·have hst := hstep pos hlt hb hpre
     unfold isD at hb
     have hdec := decode_low hlt Zf7
     repeat' (first | (apply gL; first | (apply Wl.ev rfl rfl; exact Zev) | (refine Zhd ?_) | apply Wl.nil | ((fail_if_success (apply Wl.chk rfl)); refine Wl.split rfl rfl ?_ ?_ <;> (intro h; try exact Zg))) | (apply lW; first | apply W.seq | (refine W.again (pos + 1) ?_ ?_ Zn Ze) | apply W.region | apply W.block | apply W.blk | apply W.skip | (refine Zbk ?_) | (refine Zz ?_ ?_ <;> (intro h; try exact Zg))))
     ·exact ⟨by omega, hst⟩
     ·omega
    ·have hdec : ∃ c wd, Utf8.decode ⟨s.toArray⟩ pos = (c, wd) ∧ ¬(48 ≤ c ∧ c ≤ 57) := by
      by_cases h8 : (s.getD pos 0).toNat < 128
      ·exact ⟨_, _, decode_low hlt h8, hb⟩
      ·have := decode_up hlt Zf7
       exact ⟨(Utf8.decode ⟨s.toArray⟩ pos).1, (Utf8.decode ⟨s.toArray⟩ pos).2, rfl, by omega⟩
     obtain ⟨c, wd, hdec, hcb⟩ := hdec
     repeat' (first | (apply gL; first | (apply Wl.ev rfl rfl; exact Zev) | (refine wl_nextStr' rfl rfl rfl hlt hdec Zf ?_) | apply Wl.nil | (refine Zbr ?_) | ((fail_if_success (apply Wl.chk rfl)); refine Wl.split rfl rfl ?_ ?_ <;> (intro h; try exact Zg))) | (apply lW; first | apply W.seq | apply W.region | apply W.block | apply W.skip | (refine Zcm ?_) | (refine Zbk ?_) | (refine Zz ?_ ?_ <;> (intro h; try exact Zg)) | (refine Zc1 ?_; intro w hs)))
     all_goals exact ret_eq hs (by rw [hres, if_neg hne, if_pos hall])
 ·repeat' (first | (apply gL; first | (apply Wl.ev rfl rfl; exact Zev) | apply Wl.nil) | (apply lW; first | apply W.seq | apply W.region | apply W.scope0 | (refine Zz ?_ ?_ <;> (intro h; try exact Zg)) | (refine Zc1 ?_; intro w hs)))
  exact ret_eq hs (by unfold parseS; rw [if_pos Zf7])
end Go.Proofs.YtbinaeemcidicaaGreatDoor
namespace Go.Proofs.YtbinaeemcidicaaGreatDoor
open Go.PB Go.RowKit
attribute [local irreducible] Go.Calls
end Go.Proofs.YtbinaeemcidicaaGreatDoor
namespace Go.Proofs.YtbinaeemcidicaaGreatDoor
open Go.PB Go.RowKit
theorem idx_at : ∀ {t : List UInt8} {c : UInt8}, 0 ≤ Lib.indexByte t c → t = t.take (Lib.indexByte t c).toNat ++ c :: t.drop ((Lib.indexByte t c).toNat + 1) ∧ ∀ b ∈ t.take (Lib.indexByte t c).toNat, b ≠ c
 | [], c, h => by simp [Lib.indexByte] at h
 | b :: t, c, h => by
  by_cases hb : b = c
  ·subst hb
   have e : Lib.indexByte (b :: t) b = 0 := by simp [Lib.indexByte]
   rw [e]
   simp
  ·have hb' : ¬(b == c) = true := by simpa using hb
   have hge := (indexByte_le t c).2
   simp only [Lib.indexByte, if_neg hb'] at h ⊢
   by_cases hm : Lib.indexByte t c = -1
   ·rw [if_pos (by rw [hm]; rfl)] at h; omega
   ·have hm' : ¬(Lib.indexByte t c == -1) = true := by simpa using hm
    rw [if_neg hm'] at h ⊢
    obtain ⟨h1, h2⟩ := idx_at (t := t) (c := c) Zf7
    rw [show (Lib.indexByte t c + 1).toNat = (Lib.indexByte t c).toNat + 1 by omega]
    constructor
    ·simp only [List.take_succ_cons, List.drop_succ_cons, List.cons_append]
     rw [← h1]
    ·simpa [hb] using h2
theorem idx_no : ∀ {t : List UInt8} {c : UInt8}, ¬0 ≤ Lib.indexByte t c → c ∉ t
 | [], c, _ => by simp
 | b :: t, c, h => by
  by_cases hb : b = c
  ·subst hb
   exact absurd (by simp [Lib.indexByte]) h
  ·have hb' : ¬(b == c) = true := by simpa using hb
   have hge := (indexByte_le t c).2
   simp only [Lib.indexByte, if_neg hb'] at h
   by_cases hm : Lib.indexByte t c = -1
   ·have := idx_no (t := t) (c := c) Zf7
    simp [this, Ne.symm hb]
   ·have hm' : ¬(Lib.indexByte t c == -1) = true := by simpa using hm
    rw [if_neg hm'] at h
    omega
end Go.Proofs.YtbinaeemcidicaaGreatDoor
namespace Go.Proofs
open Go.Shelf
def Tryz.lays143_ren : Go.Shelf.Ren := ⟨fun | 143 => 45 | 219 => 85 | 217 => 84 | 225 => 125 | 224 => 126 | 267 => 127 | 266 => 124 | 314 => 158 | n => n, fun | 9 => 9 | 3 => 3 | 4 => 4 | 5 => 5 | 46 => 166 | 146 => 188 | 51 => 187 | n => n, fun | 1 => 0 | n => n⟩
theorem Tryz.lays143 : Go.Proofs.Lays.n143 Tryz.prog Tryz.lays143_ren := {
 mixed := by kernel_rfl
 f143 := Tryz.func45.trans (congrArg some Zj)
 f217 := Tryz.func84.trans (congrArg some Zj)
 f219 := Tryz.func85.trans (congrArg some Zj)
 f224 := Tryz.func126.trans (congrArg some Zj)
 f225 := Tryz.func125.trans (congrArg some Zj)
 f266 := Tryz.func124.trans (congrArg some Zj)
 f267 := Tryz.func127.trans (congrArg some Zj)
 f314 := Tryz.func158.trans (congrArg some Zj)
 t3 := Tryz.underlying3
 a3 := Tryz.isAgg3
 z3 := Tryz.sizeOf3
 v3 := Tryz.zeroValue3
 t4 := Tryz.underlying4
 a4 := Tryz.isAgg4
 z4 := Tryz.sizeOf4
 v4 := Tryz.zeroValue4
 t5 := Tryz.underlying5
 a5 := Tryz.isAgg5
 z5 := Tryz.sizeOf5
 v5 := Tryz.zeroValue5
 t9 := Tryz.underlying9
 a9 := Tryz.isAgg9
 z9 := Tryz.sizeOf9
 v9 := Tryz.zeroValue9
 t46 := Tryz.underlying166
 a46 := Tryz.isAgg166
 z46 := Tryz.sizeOf166
 v46 := Tryz.zeroValue166
 t51 := Tryz.underlying187
 a51 := Tryz.isAgg187
 z51 := Tryz.sizeOf187
 v51 := Tryz.zeroValue187
 t146 := Tryz.underlying188
 a146 := Tryz.isAgg188
 z146 := Tryz.sizeOf188
 v146 := Tryz.zeroValue188
 g1 := by kernel_rfl }
open Go.RowKit Go.Lib in
theorem Tryz.strings_Index (s sub : ByteArray) (m : Int) (w : World) (hs : s.size < 4294967281) (hm : w.cell? ⟨0, 0, none⟩ = some (.int .i64 m)) :
  Calls Tryz.prog 45 #[.string s, .string sub] w fun e w' => e = .returned (.int .i64 (Lib.index s.data.toList sub.data.toList)) ∧ w' = w := Any.strings_Index Tryz.lays143 s sub m w hs hm
def Tryz.lays212_ren : Go.Shelf.Ren := ⟨fun | 212 => 143 | 263 => 170 | 264 => 171 | n => n, fun | 46 => 166 | 51 => 187 | 146 => 188 | 53 => 200 | 148 => 201 | n => n, fun | n => n⟩
theorem Tryz.lays212 : Go.Proofs.Lays.n212 Tryz.prog Tryz.lays212_ren := {
 mixed := by kernel_rfl
 f212 := Tryz.func143.trans (congrArg some Zj)
 f263 := Tryz.func170.trans (congrArg some Zj)
 f264 := Tryz.func171.trans (congrArg some Zj)
 t46 := Tryz.underlying166
 a46 := Tryz.isAgg166
 z46 := Tryz.sizeOf166
 v46 := Tryz.zeroValue166
 t51 := Tryz.underlying187
 a51 := Tryz.isAgg187
 z51 := Tryz.sizeOf187
 v51 := Tryz.zeroValue187
 t53 := Tryz.underlying200
 a53 := Tryz.isAgg200
 z53 := Tryz.sizeOf200
 v53 := Tryz.zeroValue200
 t146 := Tryz.underlying188
 a146 := Tryz.isAgg188
 z146 := Tryz.sizeOf188
 v146 := Tryz.zeroValue188
 t148 := Tryz.underlying201
 a148 := Tryz.isAgg201
 z148 := Tryz.sizeOf201
 v148 := Tryz.zeroValue201 }
theorem Tryz.bits_Mul (x y : Nat) (hx : x < 18446744073709551616) (hy : y < 18446744073709551616) (w : World) :
  Calls Tryz.prog 143 #[.int .u64 x, .int .u64 y] w fun e w' => e = .returned (.tuple #[.int .u64 ((x * y / 18446744073709551616 : Nat) : Int), .int .u64 ((x * y % 18446744073709551616 : Nat) : Int)]) ∧ w' = w := Any.bits_Mul Tryz.lays212 x y hx hy w
theorem Tryz.maxLen (w : World) (h : w.ShapedOpen Tryz.prog) : ∃ m, w.cell? ⟨0, 0, none⟩ = some (.int .i64 m) :=
 Go.Proofs.cell_of_shapedOpen_int (zero := #[.int .i64 0]) (t := 3) h (of_decide_eq_true Zj) Zj rfl Zj Zj Tryz.underlying3
end Go.Proofs
