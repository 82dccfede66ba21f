/- Walks: the library's searches by a function; which commands may be. No condition but the table of blanks that the library reads. -/
import Derived.Test.YtdnicbbandbdbaaDoorSA
import Derived.Test.YtdnicbbandbdbaaDoorSL
import Derived.Lib.LaidTab
namespace Go.Proofs.YtdnicbbandbdbaaDoor
open Go.PB Go.RowKit
attribute [local irreducible] Go.Calls
/-- the first of which it is true -/
def fIdx {α : Type} (p : α → Bool) : List α → Int
  | [] => -1
  | a :: l => if p a = true then 0 else if fIdx p l < 0 then -1 else fIdx p l + 1
theorem fIdx_ge {α : Type} (p : α → Bool) : ∀ l : List α, -1 ≤ fIdx p l
  | [] => by simp [fIdx]
  | a :: l => by
    have := fIdx_ge p l
    unfold fIdx
    split
    · omega
    · split <;> omega
theorem fIdx_none {α : Type} {p : α → Bool} : ∀ {l : List α}, (∀ a ∈ l, p a = false) → fIdx p l = -1
  | [], _ => rfl
  | a :: l, h => by
    unfold fIdx
    rw [if_neg (by rw [h a (List.Mem.head _)]; decide), fIdx_none fun b hb => h b (List.Mem.tail _ hb), if_pos (by omega)]
theorem fIdx_at {α : Type} {p : α → Bool} {d : α} : ∀ {l : List α} {j : Nat}, j < l.length → (∀ a ∈ l.take j, p a = false) → p (l.getD j d) = true → fIdx p l = j
  | [], j, h, _, _ => by simp at h
  | a :: l, 0, _, _, h => by
    unfold fIdx
    rw [if_pos (by simpa using h)]
    rfl
  | a :: l, j + 1, hj, h1, h2 => by
    have := fIdx_at (l := l) (j := j) (d := d) (by simpa using hj) (fun b hb => h1 b (by rw [List.take_succ_cons]; exact List.Mem.tail _ hb)) (by simpa using h2)
    unfold fIdx
    rw [if_neg (by rw [h1 a (by rw [List.take_succ_cons]; exact List.Mem.head _)]; decide), this, if_neg (by omega)]
    omega
theorem fIdx_any {α : Type} (p : α → Bool) : ∀ l : List α, (0 ≤ fIdx p l) = (l.any p = true)
  | [] => by simp [fIdx]
  | a :: l => by
    have := fIdx_any p l
    unfold fIdx
    by_cases h : p a = true
    · simp [h]
    · rw [if_neg h]
      have h' : p a = false := by simpa using h
      rw [List.any_cons, h', Bool.false_or, ← this]
      split
      · simp; omega
      · simp; omega
theorem fIdx_dec {α : Type} (p : α → Bool) (l : List α) : decide (0 ≤ fIdx p l) = l.any p := by
  by_cases h : l.any p = true
  · rw [h]
    exact decide_eq_true (by rw [fIdx_any]; exact h)
  · rw [Bool.not_eq_true] at h
    rw [h]
    exact decide_eq_false (by rw [fIdx_any]; simp [h])
theorem take_snoc_all {α : Type} {l : List α} {j : Nat} {d : α} {P : α → Prop} (hj : j < l.length) (h : ∀ a ∈ l.take j, P a) (h2 : P (l.getD j d)) : ∀ a ∈ l.take (j + 1), P a := fun a ha => by
  rw [List.take_succ_eq_append_getElem hj] at ha
  rcases List.mem_append.1 ha with ha | ha
  · exact h a ha
  · rw [List.mem_singleton] at ha
    rw [ha]
    simpa [List.getD, hj] using h2
set_option maxRecDepth 100000 in
theorem indexFuncI_ok {M : List Nat} {w0 w : World} {R : List Ent} {v : Value} {l : List Int} {g : Nat} {p : Int → Bool} (hst : St M w0 w R) (hv : RdX R v l.length (intV l)) (hl : l.length ≤ 4611686018427387904) (hg : Has Tryd.prog g)
    (hp : ∀ n w, Calls Tryd.prog g #[.int .i64 n] w (Give (.bool (p n)) w)) : Calls Tryd.prog 79 #[v, fnv g] w (Give (.int .i64 (fIdx p l)) w) := by
  have hv' := hv.ro
  obtain ⟨q, c, rfl⟩ := hv.len
  refine give_of_W (vs := [.slice q l.length c, fnv g]) Tryd.func79 rfl Tryd.ntmps79 (Nat.le_of_ble_eq_true rfl) hst.reads ?_
  simp only [argL]
  repeat' (first | (apply gL; first | (apply Wl.ev rfl rfl; (focus (first | exact ev_move rfl | exact ev_assign rfl | (apply gCal; first | exact ev_len_slice (slT rfl) rfl)))) | apply Wl.nil) | (apply gQ; first | (apply Wq.ev rfl rfl; (focus (first | exact ev_move rfl | exact ev_assign rfl | (apply gCal; first | exact ev_len_slice (slT rfl) rfl))))) | ((show W _ _ _ _ _ _ _ _ _); first | apply W.seq | (refine W.loop (X := Nat) (fun j => [(0, .slice q l.length c), (1, fnv g), (7, .int .i64 (l.length : Nat)), (8, .int .i64 (j : Nat))]) (fun _ => ro R) (fun j => j ≤ l.length ∧ ∀ a ∈ l.take j, p a = false) (fun j => l.length - j) 0 ⟨Nat.zero_le _, by simp⟩ (by repeat (first | exact SubL.nil | refine SubL.cons rfl ?_)) (List.Sublist.refl _) ?_) | apply W.region | apply W.block))
  rintro j ⟨hj, hall⟩
  by_cases hlt : j < l.length
  · obtain ⟨b, off, c1, arr, et, fr, wr, he, hm, hcc, hgt⟩ := hv'.pos (by omega)
    cases he
    have g0 := hgt j _ (intV_get hlt)
    obtain ⟨y, hy⟩ : ∃ y, l.getD j 0 = y := ⟨_, rfl⟩
    rw [hy] at g0
    obtain ⟨bb, hbb⟩ : ∃ bb, p y = bb := ⟨_, rfl⟩
    have hpy : ∀ w, Calls Tryd.prog g #[.int .i64 y] w (Give (.bool bb) w) := fun w => by rw [← hbb]; exact hp y w
    repeat' (first | (apply gL; first | (apply Wl.ev rfl rfl; (focus (first | exact ev_move rfl | (apply gLoa; first | exact ev_loadAt (agT rfl) rfl hm (g0 _ (by omega))) | exact ev_assign rfl | (apply gBin; first | exact ev_lti rfl rfl | exact ev_add64 rfl rfl (by omega)) | (apply gIxA; first | exact ev_indexAddr (slT rfl) (szT rfl) rfl rfl (by omega))))) | ((show Wl _ _ _ _ _ _ _ (⟨_, .call ⟨.value (.tmp _), _, _⟩, _, _, _, _⟩ :: _) _ _); refine wl_callF rfl rfl hg rfl rfl (fun w _ => hpy w) ?_) | apply Wl.nil) | (apply gQ; first | (apply Wq.ev rfl rfl; (focus (first | exact ev_move rfl | (apply gLoa; first | exact ev_loadAt (agT rfl) rfl hm (g0 _ (by omega))) | exact ev_assign rfl | (apply gBin; first | exact ev_lti rfl rfl | exact ev_add64 rfl rfl (by omega)) | (apply gIxA; first | exact ev_indexAddr (slT rfl) (szT rfl) rfl rfl (by omega)))))) | ((show W _ _ _ _ _ _ _ _ _); first | apply W.seq | apply W.region | apply W.block | apply W.blk | apply W.skip | (refine W.cond rfl ?_ ?_ <;> (intro h; try (exfalso; first | contradiction | omega | exact h rfl | exact h ⟨rfl, rfl⟩ | (simp_all; done)))) | (refine W.condB rfl ?_ ?_ <;> (intro h; try (exfalso; first | contradiction | (simp_all; done)))) | (refine W.ret1 rfl rfl ?_; intro w hs)))
    all_goals first
      | exact W.again (j + 1) ⟨hlt, take_snoc_all (d := 0) hlt hall (by rw [hy, hbb]; assumption)⟩ (by omega) (by repeat (first | exact SubL.nil | refine SubL.cons rfl ?_)) (List.Sublist.refl _)
      | exact ret_eq hs (by rw [fIdx_at (d := 0) hlt hall (by rw [hy, hbb]; assumption)])
  · obtain rfl : j = l.length := by omega
    rw [List.take_length] at hall
    repeat' (first | (apply gL; first | (apply Wl.ev rfl rfl; (focus (first | exact ev_assign rfl | exact ev_lti rfl rfl))) | apply Wl.nil) | (apply gQ; first | (apply Wq.ev rfl rfl; (focus (first | exact ev_assign rfl | exact ev_lti rfl rfl)))) | ((show W _ _ _ _ _ _ _ _ _); first | apply W.seq | apply W.region | (refine W.exit rfl ?_) | (refine W.cond rfl ?_ ?_ <;> (intro h; try (exfalso; first | contradiction | omega | exact h rfl | exact h ⟨rfl, rfl⟩ | (simp_all; done)))) | (refine W.ret1 rfl rfl ?_; intro w hs)))
    all_goals exact ret_eq hs (by rw [fIdx_none hall])
set_option maxRecDepth 100000 in
theorem containsFuncI_ok {M : List Nat} {w0 w : World} {R : List Ent} {v : Value} {l : List Int} {g : Nat} {p : Int → Bool} (hst : St M w0 w R) (hv : RdX R v l.length (intV l)) (hl : l.length ≤ 4611686018427387904) (hg : Has Tryd.prog g)
    (hp : ∀ n w, Calls Tryd.prog g #[.int .i64 n] w (Give (.bool (p n)) w)) : Calls Tryd.prog 65 #[v, fnv g] w (Give (.bool (l.any p)) w) := by
  have hv' := hv.ro
  refine give_of_W (vs := [v, fnv g]) Tryd.func65 rfl Tryd.ntmps65 (Nat.le_of_ble_eq_true rfl) hst.reads ?_
  simp only [argL]
  repeat' (first | (apply gL; first | (apply Wl.ev rfl rfl; (focus (first | exact ev_move rfl | exact ev_assign rfl | exact ev_gei rfl rfl))) | ((show Wl _ _ _ _ _ _ _ (⟨_, .call ⟨.value (.func 79), _, _⟩, _, _, _, _⟩ :: _) _ _); refine wl_call0 rfl rfl has79 rfl (fun w hs => indexFuncI_ok hs hv' hl hg hp) ?_) | apply Wl.nil) | (apply gQ; first | (apply Wq.ev rfl rfl; (focus (first | exact ev_move rfl | exact ev_assign rfl | exact ev_gei rfl rfl)))) | ((show W _ _ _ _ _ _ _ _ _); first | apply W.seq | apply W.region | (refine W.ret1 rfl rfl ?_; intro w hs)))
  exact ret_eq hs (congrArg Value.bool (fIdx_dec p l))
/-- the library's table of blanks, of powers of ten; the cell that its search reads; its errors -/
def Spc (w : World) : Prop := Lib.TabIs Tryd.prog w "strings.asciiSpace" .u8 Lib.asciiSpaceTab
def Pows (w : World) : Prop := Lib.TabIs Tryd.prog w "internal/strconv.uint64pow10" .u64 Lib.pow10Tab
theorem tab_st {M : List Nat} {w0 w : World} {H : List Ent} {nm : String} {k : IntKind} {zs : List Int} (hs : St M w0 w H) (h : Lib.TabIs Tryd.prog w0 nm k zs) (h0 : ∀ g, Tryd.prog.globalNamed nm = some g → g ∉ M) : Lib.TabIs Tryd.prog w nm k zs := by
  unfold Lib.TabIs World.var? at h ⊢
  obtain ⟨g, hg, hv⟩ := Option.bind_eq_some_iff.1 h
  rw [hg, Option.bind_some]
  have hlt : g < w0.heap.size := by
    refine Nat.lt_of_not_le fun hle => ?_
    rw [Array.getElem?_eq_none hle] at hv
    cases hv
  rw [hs.frame g hlt (h0 g hg)]
  exact hv
/-- blocks of the world ahead of this one: what a walk may turn lies behind them -/
def Low (M : List Nat) : Prop := ∀ b ∈ M, 6 ≤ b
theorem Low.nil : Low [] := fun _ h => by cases h
theorem Spc.st {M : List Nat} {w0 w : World} {H : List Ent} (hs : St M w0 w H) (h : Spc w0) (h0 : Low M) : Spc w :=
  tab_st hs h fun g hg hm => by
    have e : Tryd.prog.globalNamed "strings.asciiSpace" = some 1 := by kernel_rfl
    rw [e] at hg
    cases hg
    have := h0 _ hm
    omega
theorem Pows.st {M : List Nat} {w0 w : World} {H : List Ent} (hs : St M w0 w H) (h : Pows w0) (h0 : Low M) : Pows w :=
  tab_st hs h fun g hg hm => by
    have e : Tryd.prog.globalNamed "internal/strconv.uint64pow10" = some 5 := by kernel_rfl
    rw [e] at hg
    cases hg
    have := h0 _ hm
    omega
def cellOk (w : World) (b : Nat) (P : Value → Prop) : Prop := ∃ v, w.cell? ⟨b, 0, none⟩ = some v ∧ P v
theorem cellOk.st {M : List Nat} {w0 w : World} {H : List Ent} {b : Nat} {P : Value → Prop} (hs : St M w0 w H) (h : cellOk w0 b P) (h0 : b ∉ M) : cellOk w b P := by
  obtain ⟨v, hv, hp⟩ := h
  refine ⟨v, ?_, hp⟩
  have hlt : b < w0.heap.size := by
    refine Nat.lt_of_not_le fun hle => ?_
    have : w0.heap[b]? = none := Array.getElem?_eq_none hle
    simp [World.cell?, this] at hv
  have := hs.frame b hlt h0
  unfold World.cell? at hv ⊢
  rw [this]
  exact hv
def isIntV (v : Value) : Prop := ∃ m, v = .int .i64 m
def isErrV (v : Value) : Prop := v = .nilIface ∨ ∃ te pe, v = .iface te pe
/-- what the library reads -/
structure Lb (w : World) : Prop where
  sp : Spc w
  pw : Pows w
  mx : cellOk w 0 isIntV
  e1 : cellOk w 3 isErrV
  e2 : cellOk w 4 isErrV
theorem Lb.st {M : List Nat} {w0 w : World} {H : List Ent} (h : Lb w0) (hs : St M w0 w H) (h0 : Low M) : Lb w :=
  have n : ∀ k, k < 6 → k ∉ M := fun k hk hm => by have := h0 k hm; omega
  ⟨h.sp.st hs h0, h.pw.st hs h0, h.mx.st hs (n 0 (by omega)), h.e1.st hs (n 3 (by omega)), h.e2.st hs (n 4 (by omega))⟩
set_option maxRecDepth 100000 in
theorem indexFuncC_ok {M : List Nat} {w0 w : World} {R : List Ent} {v : Value} {l : List Cv} {g : Nat} {p : Cv → Bool} (hst : St M w0 w R) (hv : RdC R v l) (hl : l.length ≤ 1000000) (hg : Has Tryd.prog g) (lb : Lb w)
    (hp : ∀ y ∈ l, ∀ M w0 w, Lb w → St M w0 w (ro R) → Calls Tryd.prog g #[cvV y] w (Give (.bool (p y)) w)) : Calls Tryd.prog 63 #[v, fnv g] w (Give (.int .i64 (fIdx p l)) w) := by
  have hv' := hv.1.ro
  obtain ⟨q, c, rfl⟩ := hv.1.len
  refine give_of_W (vs := [.slice q l.length c, fnv g]) Tryd.func63 rfl Tryd.ntmps63 (Nat.le_of_ble_eq_true rfl) hst.reads ?_
  simp only [argL]
  repeat' (first | (apply gL; first | (apply Wl.ev rfl rfl; (focus (first | exact ev_move rfl | exact ev_assign rfl | (apply gCal; first | exact ev_len_slice (slT rfl) rfl)))) | apply Wl.nil) | (apply gQ; first | (apply Wq.ev rfl rfl; (focus (first | exact ev_move rfl | exact ev_assign rfl | (apply gCal; first | exact ev_len_slice (slT rfl) rfl))))) | ((show W _ _ _ _ _ _ _ _ _); first | apply W.seq | (refine W.loop (X := Nat) (fun j => [(0, .slice q l.length c), (1, fnv g), (7, .int .i64 (l.length : Nat)), (8, .int .i64 (j : Nat))]) (fun _ => ro R) (fun j => j ≤ l.length ∧ ∀ a ∈ l.take j, p a = false) (fun j => l.length - j) 0 ⟨Nat.zero_le _, by simp⟩ (by repeat (first | exact SubL.nil | refine SubL.cons rfl ?_)) (List.Sublist.refl _) ?_) | apply W.region | apply W.block))
  rintro j ⟨hj, hall⟩
  by_cases hlt : j < l.length
  · obtain ⟨b, off, c1, arr, et, fr, wr, he, hm, hcc, hgt⟩ := hv'.pos (by omega)
    cases he
    have hpy := hp _ (getD_mem (d := cv0) hlt)
    have g0 : ∀ (f : Nat) u, (cvC (l.getD j cv0))[f]? = some u → ∀ o, o = off + (j * 4 + f) → arr[o]? = some u := fun f u h => hgt _ _ (cvsC_get hlt h)
    obtain ⟨y, hy⟩ : ∃ y, l.getD j cv0 = y := ⟨_, rfl⟩
    rw [hy] at hpy g0
    obtain ⟨bb, hbb⟩ : ∃ bb, p y = bb := ⟨_, rfl⟩
    rw [hbb] at hpy
    repeat' (first | (apply gL; first | (apply Wl.ev rfl rfl; (focus (first | exact ev_move rfl | (apply gLoa; first | exact ev_loadAggAt (agT rfl) (szT rfl) rfl hm (fun i v h => g0 i v h _ (by omega)) rfl) | exact ev_assign rfl | (apply gBin; first | exact ev_lti rfl rfl | exact ev_add64 rfl rfl (by omega)) | (apply gIxA; first | exact ev_indexAddr (slT rfl) (szT rfl) rfl rfl (by omega))))) | ((show Wl _ _ _ _ _ _ _ (⟨_, .call ⟨.value (.tmp _), _, _⟩, _, _, _, _⟩ :: _) _ _); refine wl_callF rfl rfl hg rfl rfl (fun w hs => hpy _ _ _ (lb.st hs Low.nil) hs) ?_) | apply Wl.nil) | (apply gQ; first | (apply Wq.ev rfl rfl; (focus (first | exact ev_move rfl | (apply gLoa; first | exact ev_loadAggAt (agT rfl) (szT rfl) rfl hm (fun i v h => g0 i v h _ (by omega)) rfl) | exact ev_assign rfl | (apply gBin; first | exact ev_lti rfl rfl | exact ev_add64 rfl rfl (by omega)) | (apply gIxA; first | exact ev_indexAddr (slT rfl) (szT rfl) rfl rfl (by omega)))))) | ((show W _ _ _ _ _ _ _ _ _); first | apply W.seq | apply W.region | apply W.block | apply W.blk | apply W.skip | (refine W.cond rfl ?_ ?_ <;> (intro h; try (exfalso; first | contradiction | omega | exact h rfl | exact h ⟨rfl, rfl⟩ | (simp_all; done)))) | (refine W.condB rfl ?_ ?_ <;> (intro h; try (exfalso; first | contradiction | (simp_all; done)))) | (refine W.ret1 rfl rfl ?_; intro w hs)))
    all_goals first
      | exact W.again (j + 1) ⟨hlt, take_snoc_all (d := cv0) hlt hall (by rw [hy, hbb]; assumption)⟩ (by omega) (by repeat (first | exact SubL.nil | refine SubL.cons rfl ?_)) (List.Sublist.refl _)
      | exact ret_eq hs (by rw [fIdx_at (d := cv0) hlt hall (by rw [hy, hbb]; assumption)])
  · obtain rfl : j = l.length := by omega
    rw [List.take_length] at hall
    repeat' (first | (apply gL; first | (apply Wl.ev rfl rfl; (focus (first | exact ev_assign rfl | exact ev_lti rfl rfl))) | apply Wl.nil) | (apply gQ; first | (apply Wq.ev rfl rfl; (focus (first | exact ev_assign rfl | exact ev_lti rfl rfl)))) | ((show W _ _ _ _ _ _ _ _ _); first | apply W.seq | apply W.region | (refine W.exit rfl ?_) | (refine W.cond rfl ?_ ?_ <;> (intro h; try (exfalso; first | contradiction | omega | exact h rfl | exact h ⟨rfl, rfl⟩ | (simp_all; done)))) | (refine W.ret1 rfl rfl ?_; intro w hs)))
    all_goals exact ret_eq hs (by rw [fIdx_none hall])
set_option maxRecDepth 100000 in
theorem containsFuncC_ok {M : List Nat} {w0 w : World} {R : List Ent} {v : Value} {l : List Cv} {g : Nat} {p : Cv → Bool} (hst : St M w0 w R) (hv : RdC R v l) (hl : l.length ≤ 1000000) (hg : Has Tryd.prog g) (lb : Lb w)
    (hp : ∀ y ∈ l, ∀ M w0 w, Lb w → St M w0 w (ro (ro R)) → Calls Tryd.prog g #[cvV y] w (Give (.bool (p y)) w)) : Calls Tryd.prog 46 #[v, fnv g] w (Give (.bool (l.any p)) w) := by
  have hv' := hv.ro
  refine give_of_W (vs := [v, fnv g]) Tryd.func46 rfl Tryd.ntmps46 (Nat.le_of_ble_eq_true rfl) hst.reads ?_
  simp only [argL]
  repeat' (first | (apply gL; first | (apply Wl.ev rfl rfl; (focus (first | exact ev_move rfl | exact ev_assign rfl | exact ev_gei rfl rfl))) | ((show Wl _ _ _ _ _ _ _ (⟨_, .call ⟨.value (.func 63), _, _⟩, _, _, _, _⟩ :: _) _ _); refine wl_call0 rfl rfl has63 rfl (fun w hs => indexFuncC_ok hs hv' hl hg (lb.st hs Low.nil) hp) ?_) | apply Wl.nil) | (apply gQ; first | (apply Wq.ev rfl rfl; (focus (first | exact ev_move rfl | exact ev_assign rfl | exact ev_gei rfl rfl)))) | ((show W _ _ _ _ _ _ _ _ _); first | apply W.seq | apply W.region | (refine W.ret1 rfl rfl ?_; intro w hs)))
  exact ret_eq hs (congrArg Value.bool (fIdx_dec p l))
set_option maxRecDepth 100000 in
theorem side_ok (n : Int) (w : World) : Calls Tryd.prog 45 #[.int .i64 n] w (Give (.bool (decide (sideP n))) w) := by
  refine give_of_W (vs := [.int .i64 n]) Tryd.func45 rfl Tryd.ntmps45 (Nat.le_of_ble_eq_true rfl) (St.nil w _) ?_
  simp only [argL]
  repeat' (first | (apply gL; first | (apply Wl.ev rfl rfl; (focus (first | exact ev_move rfl | exact ev_assign rfl | (apply gPic; first | exact ev_pickT rfl rfl | exact ev_pickF rfl rfl) | (apply gBin; first | exact ev_lei rfl rfl | exact ev_gei rfl rfl)))) | apply Wl.nil | (refine Wl.skip rfl rfl ?_) | ((fail_if_success (apply Wl.chk rfl)); refine Wl.split rfl rfl ?_ ?_ <;> (intro h; try (exfalso; first | contradiction | omega | exact h rfl | exact h ⟨rfl, rfl⟩ | (simp_all; done))))) | (apply gQ; first | (apply Wq.ev rfl rfl; (focus (first | exact ev_move rfl | exact ev_assign rfl | (apply gPic; first | exact ev_pickT rfl rfl | exact ev_pickF rfl rfl) | (apply gBin; first | exact ev_lei rfl rfl | exact ev_gei rfl rfl))))) | ((show W _ _ _ _ _ _ _ _ _); first | apply W.seq | apply W.region | (refine W.ret1 rfl rfl ?_; intro w hs)))
  all_goals exact ret_eq hs (congrArg Value.bool (by first | (symm; rw [decide_eq_decide]; unfold sideP; omega) | (symm; rw [decide_eq_false_iff_not]; unfold sideP; omega)))
set_option maxRecDepth 100000 in
theorem wide_ok (n : Int) (w : World) : Calls Tryd.prog 64 #[.int .i64 n] w (Give (.bool (!decide (inMost n))) w) := by
  refine give_of_W (vs := [.int .i64 n]) Tryd.func64 rfl Tryd.ntmps64 (Nat.le_of_ble_eq_true rfl) (St.nil w _) ?_
  simp only [argL]
  repeat' (first | (apply gL; first | (apply Wl.ev rfl rfl; (focus (first | exact ev_move rfl | exact ev_assign rfl | (apply gPic; first | exact ev_pickT rfl rfl | exact ev_pickF rfl rfl) | (apply gBin; first | exact ev_lti rfl rfl | exact ev_gti rfl rfl)))) | apply Wl.nil | (refine Wl.skip rfl rfl ?_) | ((fail_if_success (apply Wl.chk rfl)); refine Wl.split rfl rfl ?_ ?_ <;> (intro h; try (exfalso; first | contradiction | omega | exact h rfl | exact h ⟨rfl, rfl⟩ | (simp_all; done))))) | (apply gQ; first | (apply Wq.ev rfl rfl; (focus (first | exact ev_move rfl | exact ev_assign rfl | (apply gPic; first | exact ev_pickT rfl rfl | exact ev_pickF rfl rfl) | (apply gBin; first | exact ev_lti rfl rfl | exact ev_gti rfl rfl))))) | ((show W _ _ _ _ _ _ _ _ _); first | apply W.seq | apply W.region | (refine W.ret1 rfl rfl ?_; intro w hs)))
  all_goals exact ret_eq hs (congrArg Value.bool (by first | (rw [← decide_not]; symm; rw [decide_eq_decide]; unfold inMost most; omega) | (symm; rw [Bool.not_eq_true', decide_eq_false_iff_not]; unfold inMost most; omega)))
end Go.Proofs.YtdnicbbandbdbaaDoor
