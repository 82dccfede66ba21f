/- Walks: the parser's words and tokens; its reader and its nodes in memory. No condition. -/
import Derived.Test.YtbinaeemcidicaaZRX
import Derived.Test.YtbinaeemcidicaaZInv
namespace Go.Proofs.Ytbinaeemcidicaa
open Go.PB Go.RowKit
attribute [local irreducible] Go.Calls
def tiC (t : Ti) : List Value := [.int .i64 t.k, st t.t, .int .i32 t.x, .int .i64 t.a, .int .i64 t.n]
abbrev tiV (t : Ti) : Value := .agg (tiC t).toArray
def tisC (l : List Ti) : List Value := l.flatMap tiC
theorem flat_get {α : Type} {f : α → List Value} {c : Nat} (h : ∀ a, (f a).length = c) {d : α} : ∀ {l : List α} {j i : Nat} {v : Value}, j < l.length → (f (l.getD j d))[i]? = some v → (l.flatMap f)[j * c + i]? = some v
  | [], j, _, _, h, _ => by simp at h
  | a :: l, 0, i, v, _, hv => by
    have hv' : (f a)[i]? = some v := hv
    obtain ⟨hi, _⟩ := List.getElem?_eq_some_iff.1 hv'
    rw [List.flatMap_cons, Nat.zero_mul, Nat.zero_add, List.getElem?_append_left hi]
    exact hv'
  | a :: l, j + 1, i, v, hj, hv => by
    have hv' : (f (l.getD j d))[i]? = some v := hv
    rw [List.flatMap_cons, List.getElem?_append_right (by rw [h, Nat.succ_mul]; omega), h, show (j + 1) * c + i - c = j * c + i by rw [Nat.succ_mul]; omega]
    exact flat_get h (by simpa using hj) hv'
theorem tisC_get {l : List Ti} {j i : Nat} {v : Value} (hj : j < l.length) (h : (tiC (l.getD j ti0))[i]? = some v) : (tisC l)[j * 5 + i]? = some v := flat_get (f := tiC) (c := 5) (fun _ => rfl) hj h
/-- a reader's block -/
abbrev rdP (lv : Value) (a : Nat) : Obj := row [lv, .int .i64 (a : Nat)] 60
/-- a node's block -/
abbrev ndO (kd : Int) (ty tx : List UInt8) (nm pl : Int) (kv : Value) : Obj := row [.int .i64 kd, st ty, st tx, .int .i32 nm, .slice none 0 0, .int .i64 pl, kv] 78
/-- nodes with their kids, as they lie in memory -/
inductive Tn where
  | mk (b : Nat) (kd : Int) (ty tx : List UInt8) (nm pl : Int) (o : Ow) (ks : List Tn)
namespace Tn
def b : Tn → Nat | mk b _ _ _ _ _ _ _ => b
end Tn
mutual
def tnP : Tn → Pt
  | .mk _ kd ty tx nm pl _ ks => .mk kd ty tx nm pl (tnsP ks)
def tnsP : List Tn → List Pt
  | [] => []
  | t :: l => tnP t :: tnsP l
end
mutual
def tnH : Tn → List Ent
  | .mk b kd ty tx nm pl o ks => ⟨b, true, ndO kd ty tx nm pl (ownV ks.length o)⟩ :: (ownH 62 o ++ tnsH ks)
def tnsH : List Tn → List Ent
  | [] => []
  | t :: l => tnH t ++ tnsH l
end
abbrev ptrs (l : List Tn) : List Value := l.map fun t => ptr t.b
mutual
def tnOk : Tn → Prop
  | .mk _ _ _ _ _ _ o ks => ownOk ks.length 1 (ptrs ks) o ∧ tnsOk ks
def tnsOk : List Tn → Prop
  | [] => True
  | t :: l => tnOk t ∧ tnsOk l
end
theorem tnsP_map : ∀ l : List Tn, tnsP l = l.map tnP
  | [] => rfl
  | t :: l => by rw [tnsP, tnsP_map l]; rfl
theorem tnsH_flat : ∀ l : List Tn, tnsH l = l.flatMap tnH
  | [] => rfl
  | t :: l => by rw [tnsH, tnsH_flat l]; rfl
theorem tnsOk_all : ∀ l : List Tn, tnsOk l ↔ ∀ t ∈ l, tnOk t
  | [] => by simp [tnsOk]
  | t :: l => by rw [tnsOk, tnsOk_all l]; simp
theorem tnsH_app (a b : List Tn) : tnsH (a ++ b) = tnsH a ++ tnsH b := by rw [tnsH_flat, tnsH_flat, tnsH_flat, List.flatMap_append]
theorem tnsOk_app {a b : List Tn} (h1 : tnsOk a) (h2 : tnsOk b) : tnsOk (a ++ b) := by
  rw [tnsOk_all] at *
  intro t ht
  rcases List.mem_append.1 ht with h | h
  · exact h1 t h
  · exact h2 t h
/-- what the parser panics with -/
abbrev wrongC : List PanicEntry := [{ v := .iface 90 (.agg #[]), recovered := false }]
set_option maxRecDepth 100000 in
theorem type_ok (s : List UInt8) (w : World) : Calls Try.prog 9 #[st s] w (Give (.bool (isTyp s)) w) := by
  refine give_of_W (vs := [st s]) Try.func9 rfl Try.ntmps9 (Nat.le_of_ble_eq_true rfl) (St.nil w _) ?_
  simp only [argL]
  by_cases h : isTyp s = true
  · have hm : s ∈ typW := by simpa [isTyp] using h
    rw [h]
    simp only [typW, List.mem_cons, List.not_mem_nil, or_false] at hm
    repeat' (first | (apply gL; first | (apply Wl.ev rfl rfl; (focus (first | exact ev_move rfl | exact ev_assign rfl | exact ev_eqs rfl rfl))) | apply Wl.nil) | (apply gQ; first | (apply Wq.ev rfl rfl; (focus (first | exact ev_move rfl | exact ev_assign rfl | exact ev_eqs rfl rfl)))) | ((show W _ _ _ _ _ _ _ _ _); first | apply W.seq | apply W.region | apply W.block | apply W.blk | apply W.skip | (refine W.cond rfl ?_ ?_ <;> (intro h; try (exfalso; first | contradiction | omega | exact h rfl | exact h ⟨rfl, rfl⟩ | (exact Bool.false_ne_true ((by assumption : _ = false).symm.trans h)) | (exact Bool.false_ne_true (h.symm.trans (by assumption)))))) | (refine W.ret1 rfl rfl ?_; intro w hs)))
    all_goals first | exact ret_eq hs rfl | (exfalso; simp_all; done) | fail
  · have hm : s ∉ typW := by simpa [isTyp] using h
    rw [Bool.eq_false_iff.2 h]
    simp only [typW, List.mem_cons, List.not_mem_nil, or_false, not_or] at hm
    obtain ⟨h1, h2, h3, h4, h5, h6, h7, h8, h9, h10, h11, h12, h13, h14⟩ := hm
    repeat' (first | (apply gL; first | (apply Wl.ev rfl rfl; (focus (first | exact ev_move rfl | exact ev_assign rfl | exact ev_eqs rfl rfl))) | apply Wl.nil) | (apply gQ; first | (apply Wq.ev rfl rfl; (focus (first | exact ev_move rfl | exact ev_assign rfl | exact ev_eqs rfl rfl)))) | ((show W _ _ _ _ _ _ _ _ _); first | apply W.seq | apply W.region | apply W.block | apply W.blk | apply W.skip | (refine W.cond rfl ?_ ?_ <;> (intro h; try (exfalso; first | contradiction | omega | exact h rfl | exact h ⟨rfl, rfl⟩ | (exact Bool.false_ne_true ((by assumption : _ = false).symm.trans h)) | (exact Bool.false_ne_true (h.symm.trans (by assumption)))))) | (refine W.ret1 rfl rfl ?_; intro w hs)))
    all_goals first | exact ret_eq hs rfl | contradiction | fail
set_option maxRecDepth 100000 in
theorem qual_ok (s : List UInt8) (w : World) : Calls Try.prog 20 #[st s] w (Give (.bool (isQua s)) w) := by
  refine give_of_W (vs := [st s]) Try.func20 rfl Try.ntmps20 (Nat.le_of_ble_eq_true rfl) (St.nil w _) ?_
  simp only [argL]
  by_cases h : isQua s = true
  · have hm : s ∈ quaW := by simpa [isQua] using h
    rw [h]
    simp only [quaW, List.mem_cons, List.not_mem_nil, or_false] at hm
    repeat' (first | (apply gL; first | (apply Wl.ev rfl rfl; (focus (first | exact ev_move rfl | exact ev_assign rfl | exact ev_eqs rfl rfl))) | apply Wl.nil) | (apply gQ; first | (apply Wq.ev rfl rfl; (focus (first | exact ev_move rfl | exact ev_assign rfl | exact ev_eqs rfl rfl)))) | ((show W _ _ _ _ _ _ _ _ _); first | apply W.seq | apply W.region | apply W.block | apply W.blk | apply W.skip | (refine W.cond rfl ?_ ?_ <;> (intro h; try (exfalso; first | contradiction | omega | exact h rfl | exact h ⟨rfl, rfl⟩ | (exact Bool.false_ne_true ((by assumption : _ = false).symm.trans h)) | (exact Bool.false_ne_true (h.symm.trans (by assumption)))))) | (refine W.ret1 rfl rfl ?_; intro w hs)))
    all_goals first | exact ret_eq hs rfl | (exfalso; simp_all; done) | fail
  · have hm : s ∉ quaW := by simpa [isQua] using h
    rw [Bool.eq_false_iff.2 h]
    simp only [quaW, List.mem_cons, List.not_mem_nil, or_false, not_or] at hm
    obtain ⟨h1, h2, h3, h4⟩ := hm
    repeat' (first | (apply gL; first | (apply Wl.ev rfl rfl; (focus (first | exact ev_move rfl | exact ev_assign rfl | exact ev_eqs rfl rfl))) | apply Wl.nil) | (apply gQ; first | (apply Wq.ev rfl rfl; (focus (first | exact ev_move rfl | exact ev_assign rfl | exact ev_eqs rfl rfl)))) | ((show W _ _ _ _ _ _ _ _ _); first | apply W.seq | apply W.region | apply W.block | apply W.blk | apply W.skip | (refine W.cond rfl ?_ ?_ <;> (intro h; try (exfalso; first | contradiction | omega | exact h rfl | exact h ⟨rfl, rfl⟩ | (exact Bool.false_ne_true ((by assumption : _ = false).symm.trans h)) | (exact Bool.false_ne_true (h.symm.trans (by assumption)))))) | (refine W.ret1 rfl rfl ?_; intro w hs)))
    all_goals first | exact ret_eq hs rfl | contradiction | fail
set_option maxRecDepth 100000 in
theorem resv_ok (s : List UInt8) (w : World) : Calls Try.prog 11 #[st s] w (Give (.bool (isRes s)) w) := by
  refine give_of_W (vs := [st s]) Try.func11 rfl Try.ntmps11 (Nat.le_of_ble_eq_true rfl) (St.nil w _) ?_
  simp only [argL]
  have hq : ∀ w, Calls Try.prog 20 #[st s] w (Give (.bool (isQua s)) w) := qual_ok s
  have ht : ∀ w, Calls Try.prog 9 #[st s] w (Give (.bool (isTyp s)) w) := type_ok s
  unfold isRes
  obtain ⟨q, hqq⟩ : ∃ q, isQua s = q := ⟨_, rfl⟩
  obtain ⟨t, htt⟩ : ∃ q, isTyp s = q := ⟨_, rfl⟩
  rw [hqq] at hq ⊢
  rw [htt] at ht ⊢
  clear hqq htt
  by_cases h : resW.contains s = true
  · have hm : s ∈ resW := by simpa using h
    rw [h]
    simp only [resW, List.mem_cons, List.not_mem_nil, or_false] at hm
    repeat' (first | (apply gL; first | (apply Wl.ev rfl rfl; (focus (first | exact ev_move rfl | exact ev_assign rfl | (apply gPic; first | exact ev_pickT rfl rfl | exact ev_pickF rfl rfl) | exact ev_eqs rfl rfl))) | ((show Wl _ _ _ _ _ _ _ (⟨_, .call ⟨.value (.func 20), _, _⟩, _, _, _, _⟩ :: _) _ _); refine wl_call0 rfl rfl has20 rfl (fun w hs => hq w) ?_) | ((show Wl _ _ _ _ _ _ _ (⟨_, .call ⟨.value (.func 9), _, _⟩, _, _, _, _⟩ :: _) _ _); refine wl_call0 rfl rfl has9 rfl (fun w hs => ht w) ?_) | apply Wl.nil | (refine Wl.skip rfl rfl ?_) | ((fail_if_success (apply Wl.chk rfl)); refine Wl.splitB rfl rfl ?_ ?_ <;> (intro h; try (exfalso; first | contradiction | (exact Bool.false_ne_true ((by assumption : _ = false).symm.trans h)) | (exact Bool.false_ne_true (h.symm.trans (by assumption))))))) | (apply gQ; first | (apply Wq.ev rfl rfl; (focus (first | exact ev_move rfl | exact ev_assign rfl | (apply gPic; first | exact ev_pickT rfl rfl | exact ev_pickF rfl rfl) | exact ev_eqs rfl rfl)))) | ((show W _ _ _ _ _ _ _ _ _); first | apply W.seq | apply W.region | apply W.block | apply W.blk | apply W.skip | (refine W.cond rfl ?_ ?_ <;> (intro h; try (exfalso; first | contradiction | omega | exact h rfl | exact h ⟨rfl, rfl⟩ | (exact Bool.false_ne_true ((by assumption : _ = false).symm.trans h)) | (exact Bool.false_ne_true (h.symm.trans (by assumption)))))) | (refine W.ret1 rfl rfl ?_; intro w hs)))
    all_goals first | exact ret_eq hs rfl | (exfalso; simp_all; done) | fail
  · have hm : s ∉ resW := by simpa using h
    rw [Bool.eq_false_iff.2 h]
    simp only [resW, List.mem_cons, List.not_mem_nil, or_false, not_or] at hm
    obtain ⟨h1, h2, h3, h4, h5, h6, h7, h8, h9, h10, h11, h12, h13, h14, h15, h16, h17, h18, h19⟩ := hm
    cases q
    · repeat' (first | (apply gL; first | (apply Wl.ev rfl rfl; (focus (first | exact ev_move rfl | exact ev_assign rfl | exact ev_pickF rfl rfl | exact ev_eqs rfl rfl))) | ((show Wl _ _ _ _ _ _ _ (⟨_, .call ⟨.value (.func 20), _, _⟩, _, _, _, _⟩ :: _) _ _); refine wl_call0 rfl rfl has20 rfl (fun w hs => hq w) ?_) | ((show Wl _ _ _ _ _ _ _ (⟨_, .call ⟨.value (.func 9), _, _⟩, _, _, _, _⟩ :: _) _ _); refine wl_call0 rfl rfl has9 rfl (fun w hs => ht w) ?_) | apply Wl.nil) | (apply gQ; first | (apply Wq.ev rfl rfl; (focus (first | exact ev_move rfl | exact ev_assign rfl | exact ev_pickF rfl rfl | exact ev_eqs rfl rfl)))) | ((show W _ _ _ _ _ _ _ _ _); first | apply W.seq | apply W.region | apply W.block | apply W.blk | apply W.skip | (refine W.cond rfl ?_ ?_ <;> (intro h; try (exfalso; first | contradiction | omega | exact h rfl | exact h ⟨rfl, rfl⟩ | (exact Bool.false_ne_true ((by assumption : _ = false).symm.trans h)) | (exact Bool.false_ne_true (h.symm.trans (by assumption)))))) | (refine W.ret1 rfl rfl ?_; intro w hs)))
      all_goals first | exact ret_eq hs (by simp) | contradiction | fail
    · repeat' (first | (apply gL; first | (apply Wl.ev rfl rfl; (focus (first | exact ev_move rfl | exact ev_assign rfl | exact ev_pickT rfl rfl | exact ev_eqs rfl rfl))) | ((show Wl _ _ _ _ _ _ _ (⟨_, .call ⟨.value (.func 20), _, _⟩, _, _, _, _⟩ :: _) _ _); refine wl_call0 rfl rfl has20 rfl (fun w hs => hq w) ?_) | apply Wl.nil | (refine Wl.skip rfl rfl ?_)) | (apply gQ; first | (apply Wq.ev rfl rfl; (focus (first | exact ev_move rfl | exact ev_assign rfl | exact ev_pickT rfl rfl | exact ev_eqs rfl rfl)))) | ((show W _ _ _ _ _ _ _ _ _); first | apply W.seq | apply W.region | apply W.block | apply W.blk | apply W.skip | (refine W.cond rfl ?_ ?_ <;> (intro h; try (exfalso; first | contradiction | omega | exact h rfl | exact h ⟨rfl, rfl⟩ | (exact Bool.false_ne_true ((by assumption : _ = false).symm.trans h)) | (exact Bool.false_ne_true (h.symm.trans (by assumption)))))) | (refine W.ret1 rfl rfl ?_; intro w hs)))
      all_goals first | exact ret_eq hs rfl | contradiction | fail
theorem typed_ok (t : Ti) (w : World) : Calls Try.prog 48 #[tiV t] w (Give (.bool (typedT t)) w) := by
  refine give_of_W (vs := [tiV t]) Try.func48 rfl Try.ntmps48 (Nat.le_of_ble_eq_true rfl) (St.nil w _) ?_
  simp only [argL]
  unfold typedT
  obtain ⟨k, tx, x, a, n⟩ := t
  dsimp only [tiV, tiC]
  by_cases hk : k = 1
  · rw [decide_eq_true hk, Bool.true_and]
    repeat' (first | (apply gL; first | (apply Wl.ev rfl rfl; (focus (first | exact ev_move rfl | (apply gLoa; first | exact ev_load (agT rfl) rfl (by repeat (first | exact List.Mem.head _ | apply List.Mem.tail)) rfl) | (apply gFie; first | exact ev_fieldAddr0 (fldT rfl) rfl) | exact ev_assign rfl | exact ev_pickT rfl rfl | (apply gBin; first | exact (ev_eqi rfl rfl).to (congrArg Value.bool (decide_eq_true hk)))))) | ((show Wl _ _ _ _ _ _ _ (⟨some _, .box _ _, _, _, _, _⟩ :: _) _ _); refine wl_box rfl rfl rfl rfl ?_; intro bt) | ((show Wl _ _ _ _ _ _ _ (⟨_, .call ⟨.value (.func 9), _, _⟩, _, _, _, _⟩ :: _) _ _); refine wl_call0 rfl rfl has9 rfl (fun w hs => type_ok _ w) ?_) | apply Wl.nil) | (apply gQ; first | (apply Wq.ev rfl rfl; (focus (first | exact ev_move rfl | (apply gLoa; first | exact ev_load (agT rfl) rfl (by repeat (first | exact List.Mem.head _ | apply List.Mem.tail)) rfl) | (apply gFie; first | exact ev_fieldAddr0 (fldT rfl) rfl) | exact ev_assign rfl | exact ev_pickT rfl rfl | (apply gBin; first | exact (ev_eqi rfl rfl).to (congrArg Value.bool (decide_eq_true hk))))))) | ((show W _ _ _ _ _ _ _ _ _); first | apply W.seq | apply W.region | (refine W.ret1 rfl rfl ?_; intro w hs)))
    all_goals first | exact ret_eq hs rfl | contradiction | fail
  · rw [decide_eq_false hk, Bool.false_and]
    repeat' (first | (apply gL; first | (apply Wl.ev rfl rfl; (focus (first | exact ev_move rfl | (apply gLoa; first | exact ev_load (agT rfl) rfl (by repeat (first | exact List.Mem.head _ | apply List.Mem.tail)) rfl) | (apply gFie; first | exact ev_fieldAddr0 (fldT rfl) rfl) | exact ev_assign rfl | exact ev_pickF rfl rfl | (apply gBin; first | exact (ev_eqi rfl rfl).to (congrArg Value.bool (decide_eq_false hk)))))) | ((show Wl _ _ _ _ _ _ _ (⟨some _, .box _ _, _, _, _, _⟩ :: _) _ _); refine wl_box rfl rfl rfl rfl ?_; intro bt) | apply Wl.nil | (refine Wl.skip rfl rfl ?_)) | (apply gQ; first | (apply Wq.ev rfl rfl; (focus (first | exact ev_move rfl | (apply gLoa; first | exact ev_load (agT rfl) rfl (by repeat (first | exact List.Mem.head _ | apply List.Mem.tail)) rfl) | (apply gFie; first | exact ev_fieldAddr0 (fldT rfl) rfl) | exact ev_assign rfl | exact ev_pickF rfl rfl | (apply gBin; first | exact (ev_eqi rfl rfl).to (congrArg Value.bool (decide_eq_false hk))))))) | ((show W _ _ _ _ _ _ _ _ _); first | apply W.seq | apply W.region | (refine W.ret1 rfl rfl ?_; intro w hs)))
    all_goals first | exact ret_eq hs rfl | contradiction | fail
theorem named_ok (t : Ti) (w : World) : Calls Try.prog 49 #[tiV t] w (Give (.bool (namedT t)) w) := by
  refine give_of_W (vs := [tiV t]) Try.func49 rfl Try.ntmps49 (Nat.le_of_ble_eq_true rfl) (St.nil w _) ?_
  simp only [argL]
  unfold namedT
  obtain ⟨k, tx, x, a, n⟩ := t
  dsimp only [tiV, tiC]
  by_cases hk : k = 1
  · rw [decide_eq_true hk, Bool.true_and]
    repeat' (first | (apply gL; first | (apply Wl.ev rfl rfl; (focus (first | exact ev_move rfl | (apply gLoa; first | exact ev_load (agT rfl) rfl (by repeat (first | exact List.Mem.head _ | apply List.Mem.tail)) rfl) | (apply gFie; first | exact ev_fieldAddr0 (fldT rfl) rfl) | exact ev_assign rfl | exact ev_pickT rfl rfl | (apply gBin; first | exact (ev_eqi rfl rfl).to (congrArg Value.bool (decide_eq_true hk))) | exact ev_notB rfl))) | ((show Wl _ _ _ _ _ _ _ (⟨some _, .box _ _, _, _, _, _⟩ :: _) _ _); refine wl_box rfl rfl rfl rfl ?_; intro bt) | ((show Wl _ _ _ _ _ _ _ (⟨_, .call ⟨.value (.func 11), _, _⟩, _, _, _, _⟩ :: _) _ _); refine wl_call0 rfl rfl has11 rfl (fun w hs => resv_ok _ w) ?_) | apply Wl.nil) | (apply gQ; first | (apply Wq.ev rfl rfl; (focus (first | exact ev_move rfl | (apply gLoa; first | exact ev_load (agT rfl) rfl (by repeat (first | exact List.Mem.head _ | apply List.Mem.tail)) rfl) | (apply gFie; first | exact ev_fieldAddr0 (fldT rfl) rfl) | exact ev_assign rfl | exact ev_pickT rfl rfl | (apply gBin; first | exact (ev_eqi rfl rfl).to (congrArg Value.bool (decide_eq_true hk))) | exact ev_notB rfl)))) | ((show W _ _ _ _ _ _ _ _ _); first | apply W.seq | apply W.region | (refine W.ret1 rfl rfl ?_; intro w hs)))
    all_goals first | exact ret_eq hs rfl | contradiction | fail
  · rw [decide_eq_false hk, Bool.false_and]
    repeat' (first | (apply gL; first | (apply Wl.ev rfl rfl; (focus (first | exact ev_move rfl | (apply gLoa; first | exact ev_load (agT rfl) rfl (by repeat (first | exact List.Mem.head _ | apply List.Mem.tail)) rfl) | (apply gFie; first | exact ev_fieldAddr0 (fldT rfl) rfl) | exact ev_assign rfl | exact ev_pickF rfl rfl | (apply gBin; first | exact (ev_eqi rfl rfl).to (congrArg Value.bool (decide_eq_false hk)))))) | ((show Wl _ _ _ _ _ _ _ (⟨some _, .box _ _, _, _, _, _⟩ :: _) _ _); refine wl_box rfl rfl rfl rfl ?_; intro bt) | apply Wl.nil | (refine Wl.skip rfl rfl ?_)) | (apply gQ; first | (apply Wq.ev rfl rfl; (focus (first | exact ev_move rfl | (apply gLoa; first | exact ev_load (agT rfl) rfl (by repeat (first | exact List.Mem.head _ | apply List.Mem.tail)) rfl) | (apply gFie; first | exact ev_fieldAddr0 (fldT rfl) rfl) | exact ev_assign rfl | exact ev_pickF rfl rfl | (apply gBin; first | exact (ev_eqi rfl rfl).to (congrArg Value.bool (decide_eq_false hk))))))) | ((show W _ _ _ _ _ _ _ _ _); first | apply W.seq | apply W.region | (refine W.ret1 rfl rfl ?_; intro w hs)))
    all_goals first | exact ret_eq hs rfl | contradiction | fail
theorem whole_ok (t : Ti) (w : World) : Calls Try.prog 95 #[tiV t] w (Give (.bool (wholeT t)) w) := by
  refine give_of_W (vs := [tiV t]) Try.func95 rfl Try.ntmps95 (Nat.le_of_ble_eq_true rfl) (St.nil w _) ?_
  simp only [argL]
  unfold wholeT
  obtain ⟨k, tx, x, a, n⟩ := t
  dsimp only [tiV, tiC]
  repeat' (first | (apply gL; first | (apply Wl.ev rfl rfl; (focus (first | (apply gLoa; first | exact ev_load (agT rfl) rfl (by repeat (first | exact List.Mem.head _ | apply List.Mem.tail)) rfl) | (apply gFie; first | exact ev_fieldAddr0 (fldT rfl) rfl) | exact ev_assign rfl | exact ev_eqi rfl rfl))) | ((show Wl _ _ _ _ _ _ _ (⟨some _, .box _ _, _, _, _, _⟩ :: _) _ _); refine wl_box rfl rfl rfl rfl ?_; intro bt) | apply Wl.nil) | (apply gQ; first | (apply Wq.ev rfl rfl; (focus (first | (apply gLoa; first | exact ev_load (agT rfl) rfl (by repeat (first | exact List.Mem.head _ | apply List.Mem.tail)) rfl) | (apply gFie; first | exact ev_fieldAddr0 (fldT rfl) rfl) | exact ev_assign rfl | exact ev_eqi rfl rfl)))) | ((show W _ _ _ _ _ _ _ _ _); first | apply W.seq | apply W.region | (refine W.ret1 rfl rfl ?_; intro w hs)))
  all_goals first | exact ret_eq hs rfl | contradiction | fail
end Go.Proofs.Ytbinaeemcidicaa
