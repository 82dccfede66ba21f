/- Walks: the parser's words and tokens; its reader and its nodes in memory. No condition. -/
import Derived.Test.YtbinaeemcidicaaGreatDoorZRX
import Derived.Test.YtbinaeemcidicaaGreatDoorZCn
import Derived.Test.YtbinaeemcidicaaGreatDoorZEN
set_option maxRecDepth 100000
set_option maxHeartbeats 16000000
namespace Go.Proofs.YtbinaeemcidicaaGreatDoor
open Go.PB Go.RowKit
attribute [local irreducible] Go.Calls
def tiC (t : Ti) : List Value := [.int .i64 t.k, st t.t, .int .i32 t.x, .int .i64 t.a, .int .i64 t.n]
abbrev tiV (t : Ti) : Value := .agg (tiC t).toArray
def tisC (l : List Ti) : List Value := l.flatMap tiC
theorem flat_get {α : Type} {f : α → List Value} {c : Nat} (h : ∀ a, (f a).length = c) {d : α} : ∀ {l : List α} {j i : Nat} {v : Value}, j < l.length → (f (l.getD j d))[i]? = some v → (l.flatMap f)[j * c + i]? = some v
 | [], j, _, _, h, _ => by simp at h
 | a :: l, 0, i, v, _, hv => by
  have hv' : (f a)[i]? = some v := hv
  obtain ⟨hi, _⟩ := List.getElem?_eq_some_iff.1 hv'
  rw [List.flatMap_cons, Nat.zero_mul, Nat.zero_add, List.getElem?_append_left hi]
  exact hv'
 | a :: l, j + 1, i, v, hj, hv => by
  have hv' : (f (l.getD j d))[i]? = some v := hv
  rw [List.flatMap_cons, List.getElem?_append_right (by rw [h, Nat.succ_mul]; omega), h, show (j + 1) * c + i - c = j * c + i by rw [Nat.succ_mul]; omega]
  exact flat_get h Zmg hv'
theorem tisC_get {l : List Ti} {j i : Nat} {v : Value} (hj : j < l.length) (h : (tiC (l.getD j ti0))[i]? = some v) : (tisC l)[j * 5 + i]? = some v := flat_get (f := tiC) (c := 5) (fun _ => rfl) hj h
abbrev rdP (lv : Value) (a : Nat) : Obj := row [lv, .int .i64 (a : Nat)] 75
abbrev ndO (kd : Int) (ty tx : List UInt8) (nm pl : Int) (kv : Value) : Obj := row [.int .i64 kd, st ty, st tx, .int .i32 nm, .slice none 0 0, .int .i64 pl, kv] 104
inductive Tn where
 | mk (b : Nat) (kd : Int) (ty tx : List UInt8) (nm pl : Int) (o : Ow) (ks : List Tn)
namespace Tn
def b : Tn → Nat | mk b _ _ _ _ _ _ _ => b
end Tn
mutual
def tnP : Tn → Pt
 | .mk _ kd ty tx nm pl _ ks => .mk kd ty tx nm pl (tnsP ks)
def tnsP : List Tn → List Pt
 | [] => []
 | t :: l => tnP t :: tnsP l
end
mutual
def tnH : Tn → List Ent
 | .mk b kd ty tx nm pl o ks => ⟨b, true, ndO kd ty tx nm pl (ownV ks.length o)⟩ :: (ownH 77 o ++ tnsH ks)
def tnsH : List Tn → List Ent
 | [] => []
 | t :: l => tnH t ++ tnsH l
end
abbrev ptrs (l : List Tn) : List Value := l.map fun t => ptr t.b
mutual
def tnOk : Tn → Prop
 | .mk _ _ _ _ _ _ o ks => ownOk ks.length 1 (ptrs ks) o ∧ tnsOk ks
def tnsOk : List Tn → Prop
 | [] => True
 | t :: l => tnOk t ∧ tnsOk l
end
theorem tnsP_map : ∀ l : List Tn, tnsP l = l.map tnP
 | [] => rfl
 | t :: l => by rw [tnsP, tnsP_map l]; rfl
theorem tnsH_flat : ∀ l : List Tn, tnsH l = l.flatMap tnH
 | [] => rfl
 | t :: l => by rw [tnsH, tnsH_flat l]; rfl
theorem tnsOk_all : ∀ l : List Tn, tnsOk l ↔ ∀ t ∈ l, tnOk t
 | [] => by simp [tnsOk]
 | t :: l => by rw [tnsOk, tnsOk_all l]; simp
theorem tnsH_app (a b : List Tn) : tnsH (a ++ b) = tnsH a ++ tnsH b := by rw [tnsH_flat, tnsH_flat, tnsH_flat, List.flatMap_append]
theorem tnsOk_app {a b : List Tn} (h1 : tnsOk a) (h2 : tnsOk b) : tnsOk (a ++ b) := by
 rw [tnsOk_all] at *
 intro t ht
 rcases List.mem_append.1 ht with h | h
 ·exact h1 t h
 ·exact h2 t h
abbrev wrongC : List PanicEntry := [{ v := .iface 141 (.agg #[]), recovered := false }]
theorem type_ok (s : List UInt8) (w : World) : Calls Tryz.prog 90 #[st s] w (Give (.bool (isTyp s)) w) := by
 refine give_of_W (vs := [st s]) Tryz.func90 rfl Tryz.ntmps90 (Nat.le_of_ble_eq_true rfl) (St.nil w _) ?_
 simp only [argL]
 by_cases h : isTyp s = true
 ·have hm : s ∈ typW := by simpa [isTyp] using h
  rw [h]
  simp only [typW, List.mem_cons, List.not_mem_nil, or_false] at hm
  repeat' (first | (apply gL; first | (apply Wl.ev rfl rfl; exact Zev) | apply Wl.nil) | (apply gQ; first | (apply Wq.ev rfl rfl; exact Zev)) | (apply lW; first | apply W.seq | apply W.region | apply W.block | apply W.blk | apply W.skip | (refine Zz ?_ ?_ <;> (intro h; try exact Za)) | (refine Zba ?_; intro w hs)))
  all_goals first | exact ret_eq hs rfl | exact Zdq
 ·have hm : s ∉ typW := by simpa [isTyp] using h
  rw [Bool.eq_false_iff.2 h]
  simp only [typW, List.mem_cons, List.not_mem_nil, or_false, not_or] at hm
  obtain ⟨h1, h2, h3, h4, h5, h6, h7, h8, h9, h10, h11, h12, h13, h14⟩ := hm
  repeat' (first | (apply gL; first | (apply Wl.ev rfl rfl; exact Zev) | apply Wl.nil) | (apply gQ; first | (apply Wq.ev rfl rfl; exact Zev)) | (apply lW; first | apply W.seq | apply W.region | apply W.block | apply W.blk | apply W.skip | (refine Zz ?_ ?_ <;> (intro h; try exact Za)) | (refine Zba ?_; intro w hs)))
  all_goals first | exact ret_eq hs rfl | contradiction
theorem qual_ok (s : List UInt8) (w : World) : Calls Tryz.prog 56 #[st s] w (Give (.bool (isQua s)) w) := by
 refine give_of_W (vs := [st s]) Tryz.func56 rfl Tryz.ntmps56 (Nat.le_of_ble_eq_true rfl) (St.nil w _) ?_
 simp only [argL]
 by_cases h : isQua s = true
 ·have hm : s ∈ quaW := by simpa [isQua] using h
  rw [h]
  simp only [quaW, List.mem_cons, List.not_mem_nil, or_false] at hm
  repeat' (first | (apply gL; first | (apply Wl.ev rfl rfl; exact Zev) | apply Wl.nil) | (apply gQ; first | (apply Wq.ev rfl rfl; exact Zev)) | (apply lW; first | apply W.seq | apply W.region | apply W.block | apply W.blk | apply W.skip | (refine Zz ?_ ?_ <;> (intro h; try exact Za)) | (refine Zba ?_; intro w hs)))
  all_goals first | exact ret_eq hs rfl | exact Zdq
 ·have hm : s ∉ quaW := by simpa [isQua] using h
  rw [Bool.eq_false_iff.2 h]
  simp only [quaW, List.mem_cons, List.not_mem_nil, or_false, not_or] at hm
  obtain ⟨h1, h2, h3, h4⟩ := hm
  repeat' (first | (apply gL; first | (apply Wl.ev rfl rfl; exact Zev) | apply Wl.nil) | (apply gQ; first | (apply Wq.ev rfl rfl; exact Zev)) | (apply lW; first | apply W.seq | apply W.region | apply W.block | apply W.blk | apply W.skip | (refine Zz ?_ ?_ <;> (intro h; try exact Za)) | (refine Zba ?_; intro w hs)))
  all_goals first | exact ret_eq hs rfl | contradiction
theorem resv_ok (s : List UInt8) (w : World) : Calls Tryz.prog 91 #[st s] w (Give (.bool (isRes s)) w) := by
 refine give_of_W (vs := [st s]) Tryz.func91 rfl Tryz.ntmps91 (Nat.le_of_ble_eq_true rfl) (St.nil w _) ?_
 simp only [argL]
 have hq : ∀ w, Calls Tryz.prog 56 #[st s] w (Give (.bool (isQua s)) w) := qual_ok s
 have ht : ∀ w, Calls Tryz.prog 90 #[st s] w (Give (.bool (isTyp s)) w) := type_ok s
 unfold isRes
 obtain ⟨q, hqq⟩ : ∃ q, isQua s = q := ⟨_, rfl⟩
 obtain ⟨t, htt⟩ : ∃ q, isTyp s = q := ⟨_, rfl⟩
 rw [hqq] at hq ⊢
 rw [htt] at ht ⊢
 clear hqq htt
 by_cases h : resW.contains s = true
 ·have hm : s ∈ resW := by simpa using h
  rw [h]
  simp only [resW, List.mem_cons, List.not_mem_nil, or_false] at hm
  repeat' (first | (apply gL; first | (apply Wl.ev rfl rfl; exact Zev) | (refine lD 56 ?_; refine wl_call0 rfl rfl has56 rfl (fun w hs => hq w) ?_) | (refine Zfl ?_; refine wl_call0 rfl rfl has90 rfl (fun w hs => ht w) ?_) | apply Wl.nil | (refine Zbr ?_) | ((fail_if_success (apply Wl.chk rfl)); refine Wl.splitB rfl rfl ?_ ?_ <;> (intro h; try exact Zb2))) | (apply gQ; first | (apply Wq.ev rfl rfl; exact Zev)) | (apply lW; first | apply W.seq | apply W.region | apply W.block | apply W.blk | apply W.skip | (refine Zz ?_ ?_ <;> (intro h; try exact Za)) | (refine Zba ?_; intro w hs)))
  all_goals first | exact ret_eq hs rfl | exact Zdq
 ·have hm : s ∉ resW := by simpa using h
  rw [Bool.eq_false_iff.2 h]
  simp only [resW, List.mem_cons, List.not_mem_nil, or_false, not_or] at hm
  obtain ⟨h1, h2, h3, h4, h5, h6, h7, h8, h9, h10, h11, h12, h13, h14, h15, h16, h17, h18, h19⟩ := hm
  cases q
  ·repeat' (first | (apply gL; first | (apply Wl.ev rfl rfl; exact Zev) | (refine lD 56 ?_; refine wl_call0 rfl rfl has56 rfl (fun w hs => hq w) ?_) | (refine Zfl ?_; refine wl_call0 rfl rfl has90 rfl (fun w hs => ht w) ?_) | apply Wl.nil) | (apply gQ; first | (apply Wq.ev rfl rfl; exact Zev)) | (apply lW; first | apply W.seq | apply W.region | apply W.block | apply W.blk | apply W.skip | (refine Zz ?_ ?_ <;> (intro h; try exact Za)) | (refine Zba ?_; intro w hs)))
   all_goals first | exact ret_eq hs Zgh | contradiction
  ·repeat' (first | (apply gL; first | (apply Wl.ev rfl rfl; exact Zev) | (refine lD 56 ?_; refine wl_call0 rfl rfl has56 rfl (fun w hs => hq w) ?_) | apply Wl.nil | (refine Zbr ?_)) | (apply gQ; first | (apply Wq.ev rfl rfl; exact Zev)) | (apply lW; first | apply W.seq | apply W.region | apply W.block | apply W.blk | apply W.skip | (refine Zz ?_ ?_ <;> (intro h; try exact Za)) | (refine Zba ?_; intro w hs)))
   all_goals first | exact ret_eq hs rfl | contradiction
theorem typed_ok (t : Ti) (w : World) : Calls Tryz.prog 58 #[tiV t] w (Give (.bool (typedT t)) w) := by
 refine give_of_W (vs := [tiV t]) Tryz.func58 rfl Tryz.ntmps58 (Nat.le_of_ble_eq_true rfl) (St.nil w _) ?_
 simp only [argL]
 unfold typedT
 obtain ⟨k, tx, x, a, n⟩ := t
 dsimp only [tiV, tiC]
 by_cases hk : k = 1
 ·rw [decide_eq_true hk, Bool.true_and]
  repeat' (first | (apply gL; first | (apply Wl.ev rfl rfl; exact Zcd) | (refine lB _ ?_; refine wl_box rfl rfl rfl rfl ?_; intro bt) | (refine Zfl ?_; refine wl_call0 rfl rfl has90 rfl (fun w hs => type_ok _ w) ?_) | apply Wl.nil) | (apply gQ; first | (apply Wq.ev rfl rfl; exact Zcd)) | (apply lW; first | apply W.seq | apply W.region | (refine Zba ?_; intro w hs)))
  all_goals first | exact ret_eq hs rfl | contradiction
 ·rw [decide_eq_false hk, Bool.false_and]
  repeat' (first | (apply gL; first | (apply Wl.ev rfl rfl; exact Zdb) | (refine lB _ ?_; refine wl_box rfl rfl rfl rfl ?_; intro bt) | apply Wl.nil | (refine Zbr ?_)) | (apply gQ; first | (apply Wq.ev rfl rfl; exact Zdb)) | (apply lW; first | apply W.seq | apply W.region | (refine Zba ?_; intro w hs)))
  all_goals first | exact ret_eq hs rfl | contradiction
theorem named_ok (t : Ti) (w : World) : Calls Tryz.prog 59 #[tiV t] w (Give (.bool (namedT t)) w) := by
 refine give_of_W (vs := [tiV t]) Tryz.func59 rfl Tryz.ntmps59 (Nat.le_of_ble_eq_true rfl) (St.nil w _) ?_
 simp only [argL]
 unfold namedT
 obtain ⟨k, tx, x, a, n⟩ := t
 dsimp only [tiV, tiC]
 by_cases hk : k = 1
 ·rw [decide_eq_true hk, Bool.true_and]
  repeat' (first | (apply gL; first | (apply Wl.ev rfl rfl; exact Zcd) | (refine lB _ ?_; refine wl_box rfl rfl rfl rfl ?_; intro bt) | (refine lD 91 ?_; refine wl_call0 rfl rfl has91 rfl (fun w hs => resv_ok _ w) ?_) | apply Wl.nil) | (apply gQ; first | (apply Wq.ev rfl rfl; exact Zcd)) | (apply lW; first | apply W.seq | apply W.region | (refine Zba ?_; intro w hs)))
  all_goals first | exact ret_eq hs rfl | contradiction
 ·rw [decide_eq_false hk, Bool.false_and]
  repeat' (first | (apply gL; first | (apply Wl.ev rfl rfl; exact Zdb) | (refine lB _ ?_; refine wl_box rfl rfl rfl rfl ?_; intro bt) | apply Wl.nil | (refine Zbr ?_)) | (apply gQ; first | (apply Wq.ev rfl rfl; exact Zdb)) | (apply lW; first | apply W.seq | apply W.region | (refine Zba ?_; intro w hs)))
  all_goals first | exact ret_eq hs rfl | contradiction
theorem whole_ok (t : Ti) (w : World) : Calls Tryz.prog 196 #[tiV t] w (Give (.bool (wholeT t)) w) := by
 refine give_of_W (vs := [tiV t]) Tryz.func196 rfl Tryz.ntmps196 (Nat.le_of_ble_eq_true rfl) (St.nil w _) ?_
 simp only [argL]
 unfold wholeT
 obtain ⟨k, tx, x, a, n⟩ := t
 dsimp only [tiV, tiC]
 repeat' (first | (apply gL; first | (apply Wl.ev rfl rfl; exact Zev) | (refine lB _ ?_; refine wl_box rfl rfl rfl rfl ?_; intro bt) | apply Wl.nil) | (apply gQ; first | (apply Wq.ev rfl rfl; exact Zev)) | (apply lW; first | apply W.seq | apply W.region | (refine Zba ?_; intro w hs)))
 all_goals first | exact ret_eq hs rfl | contradiction
end Go.Proofs.YtbinaeemcidicaaGreatDoor
namespace Go.PB
open Go.RowKit
theorem Upd.front {H H' : List Ent} {b : Nat} {o o' : Obj} (h : Upd H b o o' H') : ∃ A, List.Perm H (⟨b, true, o⟩ :: A) ∧ List.Perm H' (⟨b, true, o'⟩ :: A) := by
 obtain ⟨H1, H2, rfl, rfl⟩ := h
 exact ⟨H1 ++ H2, List.perm_middle, List.perm_middle⟩
theorem mem_front {H A : List Ent} {b : Nat} {o : Obj} {p : Ent} (hp : List.Perm H (⟨b, true, o⟩ :: A)) (h : p ∈ H) (hb : p.b ≠ b) : p ∈ A := by
 rcases List.mem_cons.1 (hp.subset h) with rfl | h
 ·exact absurd rfl hb
 ·exact h
end Go.PB
namespace Go.Proofs.YtbinaeemcidicaaGreatDoor
open Go.PB Go.RowKit
attribute [local irreducible] Go.Calls
def idxW (w : List UInt8) : List (List UInt8) → Int
 | [] => -1
 | v :: l => if v = w then 0 else if idxW w l < 0 then -1 else idxW w l + 1
theorem idxW_at {w : List UInt8} : ∀ {l : List (List UInt8)} {j : Nat}, j < l.length → (∀ a ∈ l.take j, ¬a = w) → l.getD j [] = w → idxW w l = j
 | [], j, h, _, _ => by simp at h
 | a :: l, 0, _, _, h => by
  rw [idxW, if_pos Zl3]
  rfl
 | a :: l, j + 1, hj, h1, h2 => by
  have := idxW_at (l := l) (j := j) Zmg (fun b hb => h1 b (by rw [List.take_succ_cons]; exact List.Mem.tail _ hb)) (by simpa using h2)
  rw [idxW, if_neg (h1 a (by rw [List.take_succ_cons]; exact List.Mem.head _)), this, if_neg Zf7]
  omega
theorem idxW_none {w : List UInt8} : ∀ {l : List (List UInt8)}, (∀ a ∈ l, ¬a = w) → idxW w l = -1
 | [], _ => rfl
 | a :: l, h => by rw [idxW, if_neg (h a (List.Mem.head _)), idxW_none fun b hb => h b (List.Mem.tail _ hb), if_pos Zf7]
theorem idxW_has (w : List UInt8) : ∀ l : List (List UInt8), (0 ≤ idxW w l) ↔ w ∈ l
 | [] => by simp [idxW]
 | v :: l => by
  have ih := idxW_has w l
  rw [idxW, List.mem_cons]
  by_cases h : v = w
  ·rw [if_pos h]
   exact ⟨fun _ => .inl h.symm, fun _ => by omega⟩
  ·rw [if_neg h]
   split
   ·exact ⟨fun h => by omega, fun e => e.elim (fun e => absurd e.symm h) (fun e => by have := ih.2 e; omega)⟩
   ·exact ⟨fun _ => .inr (ih.1 Zf7), fun _ => by omega⟩
theorem take_snoc_all {α : Type} {P : α → Prop} {l : List α} {j : Nat} {d : α} (hj : j < l.length) (h : ∀ a ∈ l.take j, P a) (h2 : P (l.getD j d)) : ∀ a ∈ l.take (j + 1), P a := by
 rw [List.take_succ_eq_append_getElem hj]
 intro a ha
 rcases List.mem_append.1 ha with ha | ha
 ·exact h a ha
 ·rw [List.mem_singleton] at ha
  rw [ha]
  simpa [List.getD, hj] using h2
theorem indexS_ok {M : List Nat} {w0 w : World} {R : List Ent} {v : Value} {l : List (List UInt8)} {s : List UInt8} (hst : St M w0 w R) (hv : RdX R v l.length (strV l)) (hl : l.length ≤ 4611686018427387904) :
  Calls Tryz.prog 133 #[v, st s] w (Give (.int .i64 (idxW s l)) w) := by
 have hv' := hv.ro
 obtain ⟨q, c, rfl⟩ := hv.len
 refine give_of_W (vs := [.slice q l.length c, st s]) Tryz.func133 rfl Tryz.ntmps133 (Nat.le_of_ble_eq_true rfl) hst.reads ?_
 simp only [argL]
 repeat' (first | (apply gL; first | (apply Wl.ev rfl rfl; exact Zev) | apply Wl.nil) | (apply gQ; first | (apply Wq.ev rfl rfl; exact Zev)) | (apply lW; first | apply W.seq | (refine W.loop (X := Nat) (fun j => [(0, .slice q l.length c), (1, st s), (7, .int .i64 (l.length : Nat)), (8, .int .i64 (j : Nat))]) (fun _ => ro R) (fun j => j ≤ l.length ∧ ∀ a ∈ l.take j, ¬a = s) (fun j => l.length - j) 0 ⟨Nat.zero_le _, by simp⟩ Zn (List.Sublist.refl _) ?_) | apply W.region | apply W.block))
 rintro j ⟨hj, hall⟩
 by_cases hlt : j < l.length
 ·obtain ⟨b, off, c1, arr, et, fr, wr, he, hm, hcc, hgt⟩ := hv'.pos Zf7
  cases he
  have g0 := hgt j _ (strV_get hlt)
  obtain ⟨y, hy⟩ : ∃ y, l.getD j [] = y := ⟨_, rfl⟩
  rw [hy] at g0
  repeat' (first | (apply gL; first | (apply Wl.ev rfl rfl; (focus (first | exact ev_loadAt (agT rfl) rfl hm (g0 _ Zf7) | exact Zev))) | apply Wl.nil) | (apply gQ; first | (apply Wq.ev rfl rfl; (focus (first | exact ev_loadAt (agT rfl) rfl hm (g0 _ Zf7) | exact Zev)))) | (apply lW; first | apply W.seq | apply W.region | apply W.block | apply W.blk | apply W.skip | (refine Zz ?_ ?_ <;> (intro h; try exact Zg)) | (refine Zba ?_; intro w hs)))
  all_goals first
   | exact W.again (j + 1) ⟨hlt, take_snoc_all (d := []) hlt hall (by rw [hy]; intro e; exact absurd e.symm Zf5)⟩ Zf7 Zn (List.Sublist.refl _)
   | exact ret_eq hs (by rw [idxW_at hlt hall (by rw [hy]; symm; assumption)])
   
 ·obtain rfl : j = l.length := by omega
  rw [List.take_length] at hall
  repeat' (first | (apply gL; first | (apply Wl.ev rfl rfl; exact Zev) | apply Wl.nil) | (apply gQ; first | (apply Wq.ev rfl rfl; exact Zev)) | (apply lW; first | apply W.seq | apply W.region | (refine Zcm ?_) | (refine Zz ?_ ?_ <;> (intro h; try exact Zg)) | (refine Zba ?_; intro w hs)))
  all_goals exact ret_eq hs (by rw [idxW_none hall])
theorem containsS_ok {M : List Nat} {w0 w : World} {R : List Ent} {v : Value} {l : List (List UInt8)} {s : List UInt8} (hst : St M w0 w R) (hv : RdX R v l.length (strV l)) (hl : l.length ≤ 1000000) :
  Calls Tryz.prog 92 #[v, st s] w (Give (.bool (l.contains s)) w) := by
 have hv' := hv.ro
 obtain ⟨q, c, rfl⟩ := hv.len
 refine give_of_W (vs := [.slice q l.length c, st s]) Tryz.func92 rfl Tryz.ntmps92 (Nat.le_of_ble_eq_true rfl) hst.reads ?_
 simp only [argL]
 repeat' (first | (apply gL; first | (apply Wl.ev rfl rfl; exact Zev) | (refine lD 133 ?_; refine wl_call0 rfl rfl has133 rfl (fun w hs => indexS_ok hs hv' Zf7) ?_) | apply Wl.nil) | (apply gQ; first | (apply Wq.ev rfl rfl; exact Zev)) | (apply lW; first | apply W.seq | apply W.region | (refine Zba ?_; intro w hs)))
 all_goals first | exact ret_eq hs (congrArg Value.bool (by rw [Bool.eq_iff_iff, decide_eq_true_iff, List.contains_iff_mem]; exact idxW_has s l))
theorem isl_ok {M : List Nat} {w0 w : World} {R : List Ent} {v : Value} {l : List (List UInt8)} {t : Ti} (hst : St M w0 w R) (hv : RdX R v l.length (strV l)) (hl : l.length ≤ 1000000) :
  Calls Tryz.prog 60 #[tiV t, v] w (Give (.bool (isA l t)) w) := by
 have hv' := hv.ro
 obtain ⟨q, c, rfl⟩ := hv.len
 refine give_of_W (vs := [tiV t, .slice q l.length c]) Tryz.func60 rfl Tryz.ntmps60 (Nat.le_of_ble_eq_true rfl) hst.reads ?_
 simp only [argL]
 unfold isA
 obtain ⟨k, tx, x, a, n⟩ := t
 dsimp only [tiV, tiC]
 have hc : ∀ {H : List Ent} (w' : World), St [] w w' H → (∀ p ∈ ro R, p ∈ H) → Calls Tryz.prog 92 #[.slice q l.length c, st tx] w' (Give (.bool (l.contains tx)) w') := fun {H} w' hs hm => containsS_ok hs (hv'.mono hm) hl
 by_cases h4 : k = 4
 ·rw [decide_eq_true h4, Bool.true_or, Bool.true_and]
  repeat' (first | (apply gL; first | (apply Wl.ev rfl rfl; exact Zfg) | (refine lB _ ?_; refine wl_box rfl rfl rfl rfl ?_; intro bt) | (refine lD 92 ?_; refine wl_call0 rfl rfl has92 rfl (fun w hs => hc w hs (fun p hp => List.Mem.tail _ hp)) ?_) | apply Wl.nil | (refine Zbr ?_)) | (apply gQ; first | (apply Wq.ev rfl rfl; exact Zfg)) | (apply lW; first | apply W.seq | apply W.region | (refine Zba ?_; intro w hs)))
  all_goals first | exact ret_eq hs rfl | contradiction
 ·by_cases h1 : k = 1
  ·rw [decide_eq_true h1, Bool.or_true, Bool.true_and]
   repeat' (first | (apply gL; first | (apply Wl.ev rfl rfl; exact Zeg) | (refine lB _ ?_; refine wl_box rfl rfl rfl rfl ?_; intro bt) | (refine lD 92 ?_; refine wl_call0 rfl rfl has92 rfl (fun w hs => hc w hs (fun p hp => List.Mem.tail _ hp)) ?_) | apply Wl.nil) | (apply gQ; first | (apply Wq.ev rfl rfl; exact Zeg)) | (apply lW; first | apply W.seq | apply W.region | (refine Zba ?_; intro w hs)))
   all_goals first | exact ret_eq hs rfl | contradiction
  ·rw [decide_eq_false h4, decide_eq_false h1, Bool.false_or, Bool.false_and]
   repeat' (first | (apply gL; first | (apply Wl.ev rfl rfl; exact Zed) | (refine lB _ ?_; refine wl_box rfl rfl rfl rfl ?_; intro bt) | apply Wl.nil | (refine Zbr ?_)) | (apply gQ; first | (apply Wq.ev rfl rfl; exact Zed)) | (apply lW; first | apply W.seq | apply W.region | (refine Zba ?_; intro w hs)))
   all_goals first | exact ret_eq hs rfl | contradiction
def TokE (TR : List Ent) (r : Nat) (lv : Value) (L : List Ti) : Prop := RdX TR lv L.length (tisC L) ∧ (∀ p ∈ TR, p.b ≠ r) ∧ L.length ≤ 1000000 ∧ ∀ t ∈ L, -2147483648 < t.x ∧ t.x ≤ 2147483647
theorem all_one_cons {v : Value} {l : List Value} (h : v.oneCell' = true) (hl : l.all (·.oneCell') = true) : (v :: l).all (·.oneCell') = true := by rw [List.all_cons, h, hl]; rfl
theorem ppeek_ok {M : List Nat} {w0 w : World} {H TR : List Ent} {r a k : Nat} {wr : Bool} {lv : Value} {L : List Ti} (hst : St M w0 w H) (hr : (⟨r, wr, rdP lv a⟩ : Ent) ∈ H) (hT : TokE TR r lv L) (hm : ∀ p ∈ TR, p ∈ H) (ha : a ≤ L.length) (hk : k ≤ 1) :
  Calls Tryz.prog 55 #[ptr r, .int .i64 (k : Nat)] w (Give (tiV ((L.drop (a + k)).headD ti0)) w) := by
 obtain ⟨hT1, hT2, hT3, _⟩ := hT
 have hv' := hT1.ro
 have hm' : ∀ p ∈ ro TR, p ∈ ro H := fun p hp => by
  obtain ⟨q, hq, rfl⟩ := List.mem_map.1 hp
  exact List.mem_map.2 ⟨q, hm q hq, rfl⟩
 have hr' := mem_ro hr
 obtain ⟨q, c, rfl⟩ := hT1.len
 refine give_of_W (vs := [ptr r, .int .i64 (k : Nat)]) Tryz.func55 rfl Tryz.ntmps55 (Nat.le_of_ble_eq_true rfl) hst.reads ?_
 simp only [argL]
 by_cases hlt : a + k < L.length
 ·obtain ⟨b, off, c1, arr, et, fr, wr, he, hmm, hcc, hgt⟩ := hv'.pos Zf7
  cases he
  have g0 : ∀ (f : Nat) u, (tiC (L.getD (a + k) ti0))[f]? = some u → ∀ o, o = off + ((a + k) * 5 + f) → arr[o]? = some u := fun f u h => hgt _ _ (tisC_get hlt h)
  have hh : (L.drop (a + k)).headD ti0 = L.getD (a + k) ti0 := by
   rw [List.drop_eq_getElem_cons hlt]
   simp [List.getD, hlt]
  rw [hh]
  obtain ⟨t, ht⟩ : ∃ t, L.getD (a + k) ti0 = t := ⟨_, rfl⟩
  rw [ht] at g0 ⊢
  repeat' (first | (apply gL; first | (apply Wl.ev rfl rfl; exact Zdu) | (refine Zf8 ?_) | apply Wl.nil | (refine Zbd ?_; intro b)) | (apply gQ; first | (apply Wq.ev rfl rfl; exact Zdu) | ((show Wq _ _ (Qt _ _ _ _) _ _ _ _ [] _ _); apply Wq.tail) | apply Wq.nil) | (apply lW; first | apply W.seq | ((show W _ _ _ _ _ _ (.inl (.region 2 _ true) :: _) _ _); refine W.regionT 12 mixed Zj rfl rfl ?_) | (refine Zgf ?_) | apply W.region | (refine Zz ?_ ?_ <;> (intro h; try exact Za)) | (refine Zhg ?_; intro w hs)))
  all_goals first | exact ret_eq hs rfl | exact Zy
 ·have hh : (L.drop (a + k)).headD ti0 = ti0 := by rw [List.drop_of_length_le Zf7]; rfl
  rw [hh]
  repeat' (first | (apply gL; first | (apply Wl.ev rfl rfl; exact Zhh) | (refine Zf8 ?_) | apply Wl.nil | (refine Zbd ?_; intro b)) | (apply gQ; first | (apply Wq.ev rfl rfl; exact Zhh) | apply Wq.nil) | (apply lW; first | apply W.seq | (refine Zgf ?_) | apply W.region | apply W.skip | (refine Zz ?_ ?_ <;> (intro h; try exact Za)) | (refine Zhg ?_; intro w hs)))
  all_goals first | exact ret_eq hs rfl | exact Zy
end Go.Proofs.YtbinaeemcidicaaGreatDoor
namespace Go.Proofs.YtbinaeemcidicaaGreatDoor
open Go.PB Go.RowKit
attribute [local irreducible] Go.Calls
def PredE (fv : Value) (p : Ti → Bool) (R : List Ent) : Prop :=
 ∃ f cs, fv = fnV f [] cs ∧ Has Tryz.prog f ∧ ∀ {M : List Nat} {w0 w : World} {H : List Ent} (t : Ti), St M w0 w H → (∀ e ∈ R, e ∈ H) → Calls Tryz.prog f ([] ++ [tiV t] ++ cs).toArray w (Give (.bool (p t)) w)
theorem mem_frontE {H A : List Ent} {x p : Ent} (hp : List.Perm H (x :: A)) (h : p ∈ H) (hb : p ≠ x) : p ∈ A := by
 rcases List.mem_cons.1 (hp.subset h) with rfl | h
 ·exact absurd rfl hb
 ·exact h
theorem drop_lt {α : Type} {L l : List α} {a : Nat} {t : α} (h : L.drop a = t :: l) : a < L.length := by
 by_cases hlt : a < L.length
 ·exact hlt
 ·rw [List.drop_of_length_le Zf7] at h
  cases h
theorem drop_next {α : Type} {L l : List α} {a : Nat} {t : α} (h : L.drop a = t :: l) : L.drop (a + 1) = l := by
 rw [← List.drop_drop, h]
 rfl
theorem take_ok {M : List Nat} {w0 w : World} {H H' TR R : List Ent} {r a : Nat} {lv fv : Value} {L l : List Ti} {p : Ti → Bool} {t : Ti} (hst : St M w0 w H) (hp : PredE fv p R) (hR : ∀ e ∈ R, e ∈ H) (hRr : ∀ e ∈ R, e ≠ ⟨r, true, rdP lv a⟩)
  (hu : Upd H r (rdP lv a) (rdP lv (a + 1)) H') (hT : TokE TR r lv L) (hm : ∀ p ∈ TR, p ∈ H) (hl : L.drop a = t :: l) (ht : p t = true) :
  Calls Tryz.prog 57 #[ptr r, fv] w (GivesS (fun _ : Unit => tiV t) (fun _ => True) M w0 fun _ => H') := by
 obtain ⟨A, p1, p2⟩ := hu.front
 have hTA : ∀ e ∈ TR, e ∈ A := fun e he => mem_front p1 (hm e he) (hT.2.1 e he)
 have hRA : ∀ e ∈ R, e ∈ A := fun e he => mem_frontE p1 (hR e he) (hRr e he)
 have hlt := drop_lt hl
 have hst1 := hst.perm p1
 obtain ⟨f, cs, rfl, hh, hc⟩ := hp
 have hL := hT.2.2.1
 obtain ⟨q, c, hq⟩ := hT.1.len
 have hpk : ∀ {H : List Ent} (w' : World), St (wrs (⟨r, true, rdP lv a⟩ :: A)) w w' H → (⟨r, true, rdP lv a⟩ : Ent) ∈ H → (∀ p ∈ TR, p ∈ H) → Calls Tryz.prog 55 #[ptr r, .int .i64 0] w' (Give (tiV t) w') := fun w' hs h1 h2 => by
  have := ppeek_ok hs h1 hT h2 (Nat.le_of_lt hlt) (k := 0) Zf7
  rw [Nat.add_zero, hl] at this
  exact this
 have hcc : ∀ {H : List Ent} (w' : World), St (wrs (⟨r, true, rdP lv a⟩ :: A)) w w' H → (∀ p ∈ R, p ∈ H) → Calls Tryz.prog f ([] ++ [tiV t] ++ cs).toArray w' (Give (.bool true) w') := fun w' hs h2 => by
  have := hc t hs h2
  rw [ht] at this
  exact this
 refine calls_of_W (vs := [ptr r, fnV f [] cs]) Tryz.func57 rfl Tryz.ntmps57 (Nat.le_of_ble_eq_true rfl) hst1.fromHere ?_
 simp only [argL]
 obtain ⟨k, tx, x, at_, n⟩ := t
 subst hq
 replace p2 : List.Perm H' (⟨r, true, row [.slice q L.length c, .int .i64 ((a : Int) + 1)] 75⟩ :: A) := p2
 repeat' (first | (apply gL; first | (apply Wl.ev rfl rfl; exact Zev) | (refine Zf8 ?_) | (refine lD 55 ?_; refine wl_call0 rfl rfl has55 rfl (fun w hs => hpk w hs Zd Zcx) ?_) | apply Wl.nil | (refine Zbd ?_; intro b) | (refine Zf9 ?_; try simp only [List.set])) | (apply gQ; first | (apply Wq.ev rfl rfl; exact Zev) | ((show Wq _ _ _ _ _ _ _ (⟨_, .call ⟨.value _, _, _⟩, _, _, _, _⟩ :: _) _ _); refine Wq.callF rfl rfl hh rfl rfl (fun w hs => hcc w hs Zd6) ?_) | apply Wq.nil | ((fail_if_success (apply Wq.chk rfl)); refine Wq.split rfl rfl ?_ ?_ <;> (intro h; try exact Zg))) | (apply lW; first | apply W.seq | (refine Zgf ?_) | apply W.region | apply W.skip | (refine Zbg ?_) | (refine Zhg ?_; intro w hs)))
 all_goals first | exact GivesS.ofC hst1 hs () trivial rfl Zeh | exact Zy
theorem take_bad {M : List Nat} {w0 w : World} {H TR R : List Ent} {r a : Nat} {lv fv : Value} {L : List Ti} {p : Ti → Bool} (hst : St M w0 w H) (hp : PredE fv p R) (hR : ∀ e ∈ R, e ∈ H)
  (hr : (⟨r, true, rdP lv a⟩ : Ent) ∈ H) (hT : TokE TR r lv L) (hm : ∀ p ∈ TR, p ∈ H) (ha : a ≤ L.length) (ht : a < L.length → p ((L.drop a).headD ti0) = false) :
  Calls Tryz.prog 57 #[ptr r, fv] w (BadS wrongC M w0 H) := by
 have hTA := hm
 have hRA := hR
 obtain ⟨f, cs, rfl, hh, hc⟩ := hp
 have hL := hT.2.2.1
 obtain ⟨q, c, hq⟩ := hT.1.len
 obtain ⟨t, htt⟩ : ∃ t, (L.drop a).headD ti0 = t := ⟨_, rfl⟩
 rw [htt] at ht
 have hpk : ∀ {H1 : List Ent} (w' : World), St (wrs H) w w' H1 → (⟨r, true, rdP lv a⟩ : Ent) ∈ H1 → (∀ p ∈ TR, p ∈ H1) → Calls Tryz.prog 55 #[ptr r, .int .i64 0] w' (Give (tiV t) w') := fun w' hs h1 h2 => by
  have := ppeek_ok hs h1 hT h2 ha (k := 0) Zf7
  rw [Nat.add_zero, htt] at this
  exact this
 have hcc : ∀ {H1 : List Ent} (w' : World), a < L.length → St (wrs H) w w' H1 → (∀ p ∈ R, p ∈ H1) → Calls Tryz.prog f ([] ++ [tiV t] ++ cs).toArray w' (Give (.bool false) w') := fun w' h1 hs h2 => by
  have := hc t hs h2
  rw [ht h1] at this
  exact this
 refine calls_of_W (vs := [ptr r, fnV f [] cs]) Tryz.func57 rfl Tryz.ntmps57 (Nat.le_of_ble_eq_true rfl) hst.fromHere ?_
 simp only [argL]
 obtain ⟨k, tx, x, at_, n⟩ := t
 subst hq
 by_cases hlt : a < L.length
 ·have hcd : ∀ {H1 : List Ent} (w' : World), St (wrs H) w w' H1 → (∀ p ∈ R, p ∈ H1) → _ := fun {H1} w' hs h2 => hcc (H1 := H1) w' hlt hs h2
  repeat' (first | (apply gL; first | (apply Wl.ev rfl rfl; exact Zcb) | (refine Zf8 ?_) | (refine wl_panic rfl rfl (bad_end ?_); intro w hs) | (refine lD 55 ?_; refine wl_call0 rfl rfl has55 rfl (fun w hs => hpk w hs Zg1 Zcx) ?_) | apply Wl.nil | (refine Zbd ?_; intro b)) | (apply gQ; first | (apply Wq.ev rfl rfl; exact Zcb) | ((show Wq _ _ _ _ _ _ _ (⟨_, .call ⟨.value _, _, _⟩, _, _, _, _⟩ :: _) _ _); refine Wq.callF rfl rfl hh rfl rfl (fun w hs => hcd w hs Zd6) ?_) | apply Wq.nil | ((fail_if_success (apply Wq.chk rfl)); refine Wq.split rfl rfl ?_ ?_ <;> (intro h; try exact Zg))) | (apply lW; first | apply W.seq | (refine Zgf ?_) | apply W.region | (refine Zbk ?_)))
  all_goals first | exact BadS.of hst hs Ze | exact Zy
 ·repeat' (first | (apply gL; first | (apply Wl.ev rfl rfl; exact Zcb) | (refine Zf8 ?_) | (refine wl_panic rfl rfl (bad_end ?_); intro w hs) | (refine lD 55 ?_; refine wl_call0 rfl rfl has55 rfl (fun w hs => hpk w hs Zg1 Zcx) ?_) | apply Wl.nil | (refine Zbd ?_; intro b)) | (apply gQ; first | (apply Wq.ev rfl rfl; exact Zcb) | apply Wq.nil | (refine Zek ?_) | ((fail_if_success (apply Wq.chk rfl)); refine Wq.split rfl rfl ?_ ?_ <;> (intro h; try exact Zg))) | (apply lW; first | apply W.seq | (refine Zgf ?_) | apply W.region | (refine Zbk ?_)))
  all_goals first | exact BadS.of hst hs Ze | exact Zy
end Go.Proofs.YtbinaeemcidicaaGreatDoor
namespace Go.Proofs.YtbinaeemcidicaaGreatDoor
open Go.PB Go.RowKit
attribute [local irreducible] Go.Calls
theorem rdx_row {R : List Ent} {b : Nat} {wr : Bool} {l : List Value} {e : TypeId} {n : Nat} {xs : List Value} (hm : (⟨b, wr, row l e⟩ : Ent) ∈ R) (hx : xs = l) : RdX R (.slice (some ⟨b, 0, none⟩) n n) n xs :=
 .inr ⟨b, 0, n, l.toArray, e, (0, 0), wr, rfl, hm, Nat.le_refl _, fun j u hu => by rw [Nat.zero_add, ← hx]; simpa using hu⟩
theorem sgn_ok {M : List Nat} {w0 w : World} {H : List Ent} {b : Nat} {wr : Bool} (s : List UInt8) (t : Ti) (hst : St M w0 w H) (hb : (⟨b, wr, row [st s] 9⟩ : Ent) ∈ H) :
  Calls Tryz.prog 134 #[tiV t, ptr b] w (Give (.bool (isA [s] t)) w) := by
 have hr := mem_ro hb
 refine give_of_W (vs := [tiV t, ptr b]) Tryz.func134 rfl Tryz.ntmps134 (Nat.le_of_ble_eq_true rfl) hst.reads ?_
 simp only [argL]
 have hi : ∀ {H : List Ent} (q : Nat) (w' : World), St [] w w' H → (⟨q, true, row [st s] 9⟩ : Ent) ∈ H → Calls Tryz.prog 60 #[tiV t, .slice (some ⟨q, 0, none⟩) 1 1] w' (Give (.bool (isA [s] t)) w') := fun q w' hs hm => isl_ok (l := [s]) hs (rdx_row hm rfl) (show 1 ≤ 1000000 by decide)
 obtain ⟨k, tx, x, a, n⟩ := t
 dsimp only [tiV, tiC] at hi ⊢
 repeat' (first | (apply gL; first | (apply Wl.ev rfl rfl; exact Zdg) | (refine lB _ ?_; refine wl_box rfl rfl rfl rfl ?_; intro bt) | (refine lD 60 ?_; refine wl_call0 rfl rfl has60 rfl (fun w hs => hi _ w hs Zd) ?_) | apply Wl.nil | (apply wl_buildSlice rfl rfl (slT rfl) (szT rfl) (zeroT rfl) rfl Zf6 rfl; exact Zt; intro b)) | (apply gQ; first | (apply Wq.ev rfl rfl; exact Zdg)) | (apply lW; first | apply W.seq | apply W.region | (refine Zba ?_; intro w hs)))
 all_goals first | exact ret_eq hs rfl
theorem sgn_pred (s : List UInt8) (b : Nat) : PredE (fnV 134 [] [ptr b]) (isA [s]) [⟨b, true, row [st s] 9⟩] :=
 ⟨_, _, rfl, has134, fun t hst hm => sgn_ok s t hst (hm _ (List.Mem.head _))⟩
theorem psign_ok {M : List Nat} {w0 w : World} {H H' TR : List Ent} {r a : Nat} {lv : Value} {L l : List Ti} {s : List UInt8} {t : Ti} (hst : St M w0 w H)
  (hu : Upd H r (rdP lv a) (rdP lv (a + 1)) H') (hT : TokE TR r lv L) (hm : ∀ p ∈ TR, p ∈ H) (hl : L.drop a = t :: l) (ht : isA [s] t = true) :
  Calls Tryz.prog 94 #[ptr r, st s] w (GivesS (fun _ : Unit => tiV t) (fun _ => True) M w0 fun _ => H') := by
 obtain ⟨A, p1, p2⟩ := hu.front
 have hTA : ∀ e ∈ TR, e ∈ A := fun e he => mem_front p1 (hm e he) (hT.2.1 e he)
 have hst1 := hst.perm p1
 refine calls_of_W (vs := [ptr r, st s]) Tryz.func94 rfl Tryz.ntmps94 (Nat.le_of_ble_eq_true rfl) hst1.fromHere ?_
 simp only [argL]
 have hk : ∀ {M : List Nat} {w0 : World} {H H' : List Ent} (b : Nat) (w' : World), St M w0 w' H → Upd H r (rdP lv a) (rdP lv (a + 1)) H' → (∀ p ∈ TR, p ∈ H) → (⟨b, true, row [st s] 9⟩ : Ent) ∈ H → Calls Tryz.prog 57 #[ptr r, fnV 134 [] [ptr b]] w' (GivesS (fun _ : Unit => tiV t) (fun _ => True) M w0 fun _ => H') :=
  fun b w' hs hu' hm' hb => take_ok hs (sgn_pred s b) (fun e he => by rw [List.mem_singleton.1 he]; exact hb) (fun e he => by rw [List.mem_singleton.1 he]; intro e; cases e) hu' hT hm' hl ht
 obtain ⟨k, tx, x, a1, n⟩ := t
 repeat' (first | (apply gL; first | (apply Wl.ev rfl rfl; exact Zu) | (refine Zf8 ?_) | (refine lD 57 ?_; refine wl_callS rfl rfl has57 rfl (fun w hs => hk _ w hs Zf Zcx Zd) ?_; intro q hq; clear hq) | apply Wl.nil | (refine Zc4 ?_; intro b) | (refine Zbd ?_; intro b)) | (apply gQ; first | (apply Wq.ev rfl rfl; exact Zu)) | (apply lW; first | apply W.seq | apply W.region | (refine Zhg ?_; intro w hs)))
 all_goals first | exact GivesS.ofC hst1 hs () trivial rfl Zeh | exact Zy
theorem psign_bad {M : List Nat} {w0 w : World} {H TR : List Ent} {r a : Nat} {lv : Value} {L : List Ti} {s : List UInt8} (hst : St M w0 w H)
  (hr : (⟨r, true, rdP lv a⟩ : Ent) ∈ H) (hT : TokE TR r lv L) (hm : ∀ p ∈ TR, p ∈ H) (ha : a ≤ L.length) (ht : a < L.length → isA [s] ((L.drop a).headD ti0) = false) :
  Calls Tryz.prog 94 #[ptr r, st s] w (BadS wrongC M w0 H) := by
 have hTA := hm
 refine calls_of_W (vs := [ptr r, st s]) Tryz.func94 rfl Tryz.ntmps94 (Nat.le_of_ble_eq_true rfl) hst.fromHere ?_
 simp only [argL]
 have hk : ∀ {M : List Nat} {w0 : World} {H : List Ent} (b : Nat) (w' : World), St M w0 w' H → (⟨r, true, rdP lv a⟩ : Ent) ∈ H → (∀ p ∈ TR, p ∈ H) → (⟨b, true, row [st s] 9⟩ : Ent) ∈ H → Calls Tryz.prog 57 #[ptr r, fnV 134 [] [ptr b]] w' (BadS wrongC M w0 H) :=
  fun b w' hs hr' hm' hb => take_bad hs (sgn_pred s b) (fun e he => by rw [List.mem_singleton.1 he]; exact hb) hr' hT hm' ha ht
 repeat' (first | (apply gL; first | (apply Wl.ev rfl rfl; exact Zu) | (refine lD 57 ?_; refine wl_callB0 rfl has57 rfl (fun w hs => hk _ w hs Zg1 Zcx Zd) (bad_end ?_); intro w hs) | apply Wl.nil | (refine Zc4 ?_; intro b) | (refine Zbd ?_; intro b)) | (apply gQ; first | (apply Wq.ev rfl rfl; exact Zu)) | (apply lW; first | apply W.seq | apply W.region))
 all_goals first | exact BadS.of hst hs Ze | exact Zy
abbrev mayV (t : Ti) (b : Bool) : Value := .tuple #[tiV t, .bool b]
theorem maybe_yes {M : List Nat} {w0 w : World} {H H' TR R : List Ent} {r a : Nat} {lv v : Value} {L l : List Ti} {s : List (List UInt8)} {t : Ti} (hst : St M w0 w H) (hv : RdX R v s.length (strV s)) (hs1 : s.length ≤ 1000000) (hR : ∀ e ∈ R, e ∈ H) (hRr : ∀ e ∈ R, e ≠ ⟨r, true, rdP lv a⟩)
  (hu : Upd H r (rdP lv a) (rdP lv (a + 1)) H') (hT : TokE TR r lv L) (hm : ∀ p ∈ TR, p ∈ H) (hl : L.drop a = t :: l) (ht : isA s t = true) :
  Calls Tryz.prog 98 #[ptr r, v] w (GivesS (fun _ : Unit => mayV t true) (fun _ => True) M w0 fun _ => H') := by
 obtain ⟨A, p1, p2⟩ := hu.front
 have hTA : ∀ e ∈ TR, e ∈ A := fun e he => mem_front p1 (hm e he) (hT.2.1 e he)
 have hRA : ∀ e ∈ R, e ∈ A := fun e he => mem_frontE p1 (hR e he) (hRr e he)
 have hlt := drop_lt hl
 have hst1 := hst.perm p1
 have hL := hT.2.2.1
 have hpk : ∀ {H : List Ent} (w' : World), St (wrs (⟨r, true, rdP lv a⟩ :: A)) w w' H → (⟨r, true, rdP lv a⟩ : Ent) ∈ H → (∀ p ∈ TR, p ∈ H) → Calls Tryz.prog 55 #[ptr r, .int .i64 0] w' (Give (tiV t) w') := fun w' hs h1 h2 => by
  have := ppeek_ok hs h1 hT h2 (Nat.le_of_lt hlt) (k := 0) Zf7
  rw [Nat.add_zero, hl] at this
  exact this
 have hi : ∀ {H : List Ent} (w' : World), St (wrs (⟨r, true, rdP lv a⟩ :: A)) w w' H → (∀ p ∈ R, p ∈ H) → Calls Tryz.prog 60 #[tiV t, v] w' (Give (.bool true) w') := fun w' hs h2 => by
  have := isl_ok (t := t) hs (hv.mono h2) hs1
  rw [ht] at this
  exact this
 replace p2 : List.Perm H' (⟨r, true, row [lv, .int .i64 ((a : Int) + 1)] 75⟩ :: A) := p2
 refine calls_of_W (vs := [ptr r, v]) Tryz.func98 rfl Tryz.ntmps98 (Nat.le_of_ble_eq_true rfl) hst1.fromHere ?_
 simp only [argL]
 obtain ⟨k, tx, x, a1, n⟩ := t
 repeat' (first | (apply gL; first | (apply Wl.ev rfl rfl; exact Zev) | (refine Zf8 ?_) | (refine lD 55 ?_; refine wl_call0 rfl rfl has55 rfl (fun w hs => hpk w hs Zd Zcx) ?_) | (refine lD 60 ?_; refine wl_call0 rfl rfl has60 rfl (fun w hs => hi w hs Zd6) ?_) | apply Wl.nil | (refine Zbd ?_; intro b) | (refine Zf9 ?_; try simp only [List.set])) | (apply gQ; first | (apply Wq.ev rfl rfl; exact Zev)) | (apply lW; first | apply W.seq | apply W.region | apply W.skip | (refine Zbg ?_) | (refine Zgp ?_; intro w hs)))
 all_goals first | exact GivesS.ofC hst1 hs () trivial rfl Zeh | exact Zy
theorem maybe_no {M : List Nat} {w0 w : World} {H TR R : List Ent} {r a : Nat} {lv v : Value} {L : List Ti} {s : List (List UInt8)} (hst : St M w0 w H) (hv : RdX R v s.length (strV s)) (hs1 : s.length ≤ 1000000) (hR : ∀ e ∈ R, e ∈ H)
  (hr : (⟨r, true, rdP lv a⟩ : Ent) ∈ H) (hT : TokE TR r lv L) (hm : ∀ p ∈ TR, p ∈ H) (ha : a ≤ L.length) (ht : isA s ((L.drop a).headD ti0) = false) :
  Calls Tryz.prog 98 #[ptr r, v] w (GivesS (fun _ : Unit => mayV ti0 false) (fun _ => True) M w0 fun _ => H) := by
 have hTA := hm
 have hRA := hR
 obtain ⟨t, htt⟩ : ∃ t, (L.drop a).headD ti0 = t := ⟨_, rfl⟩
 rw [htt] at ht
 have hpk : ∀ {H1 : List Ent} (w' : World), St (wrs H) w w' H1 → (⟨r, true, rdP lv a⟩ : Ent) ∈ H1 → (∀ p ∈ TR, p ∈ H1) → Calls Tryz.prog 55 #[ptr r, .int .i64 0] w' (Give (tiV t) w') := fun w' hs h1 h2 => by
  have := ppeek_ok hs h1 hT h2 ha (k := 0) Zf7
  rw [Nat.add_zero, htt] at this
  exact this
 have hi : ∀ {H1 : List Ent} (w' : World), St (wrs H) w w' H1 → (∀ p ∈ R, p ∈ H1) → Calls Tryz.prog 60 #[tiV t, v] w' (Give (.bool false) w') := fun w' hs h2 => by
  have := isl_ok (t := t) hs (hv.mono h2) hs1
  rw [ht] at this
  exact this
 refine calls_of_W (vs := [ptr r, v]) Tryz.func98 rfl Tryz.ntmps98 (Nat.le_of_ble_eq_true rfl) hst.fromHere ?_
 simp only [argL]
 obtain ⟨k, tx, x, a1, n⟩ := t
 repeat' (first | (apply gL; first | (apply Wl.ev rfl rfl; exact Zev) | (refine Zf8 ?_) | (refine lD 55 ?_; refine wl_call0 rfl rfl has55 rfl (fun w hs => hpk w hs Zg1 Zcx) ?_) | (refine lD 60 ?_; refine wl_call0 rfl rfl has60 rfl (fun w hs => hi w hs Zd6) ?_) | apply Wl.nil | (refine Zbd ?_; intro b)) | (apply gQ; first | (apply Wq.ev rfl rfl; exact Zev)) | (apply lW; first | apply W.seq | apply W.region | (refine Zbk ?_) | (refine Zgp ?_; intro w hs)))
 all_goals first | exact GivesS.of hst hs () trivial rfl Ze | exact Zy
theorem made_ok (kd : Int) (t : Ti) (tx : List UInt8) (p : Option Addr) (n c : Nat) (w : World) :
  Calls Tryz.prog 93 #[.int .i64 kd, tiV t, st tx, .slice p n c] w (Gives (fun b : Nat => ptr b) (fun _ => True) w (fun _ => []) fun b => [(b, ndO kd [] tx 0 t.a (.slice p n c))]) := by
 refine calls_of_W (vs := [.int .i64 kd, tiV t, st tx, .slice p n c]) Tryz.func93 rfl Tryz.ntmps93 (Nat.le_of_ble_eq_true rfl) (St.nil w []) ?_
 simp only [argL]
 obtain ⟨k, tx1, x, a1, n1⟩ := t
 dsimp only [tiV, tiC]
 repeat' (first | (apply gL; first | (apply Wl.ev rfl rfl; exact Zev) | (refine lB _ ?_; refine wl_box rfl rfl rfl rfl ?_; intro bt) | apply Wl.nil) | (apply gQ; first | (apply Wq.ev rfl rfl; exact Zev)) | (apply lW; first | apply W.seq | apply W.region | (refine Zba ?_; intro w hs)))
 all_goals first | exact ret_new hs _ trivial rfl Ze
end Go.Proofs.YtbinaeemcidicaaGreatDoor
