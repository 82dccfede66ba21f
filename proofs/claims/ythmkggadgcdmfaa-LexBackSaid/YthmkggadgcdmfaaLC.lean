/- Rows of tokens: what may be read in them; walks of the laws' small functions. No condition. -/
import Derived.Test.YthmkggadgcdmfaaLB
import Derived.Test.YthmkggadgcdmfaaEP
namespace Go.Proofs.Ythmkggadgcdmfaa
open Go.PB Go.RowKit
attribute [local irreducible] Go.Calls
instance tkDec : DecidableEq Tk := fun a b => decidable_of_iff (a.k = b.k ∧ a.t = b.t ∧ a.x = b.x ∧ a.at_ = b.at_ ∧ a.ln = b.ln) (by cases a; cases b; simp)
theorem tksC_get : ∀ {l : List Tk} {j i : Nat} {v : Value}, j < l.length → (tkC (l.getD j ⟨0, [], 0, 0, 0⟩))[i]? = some v → (tksC l)[j * 5 + i]? = some v
  | [], j, _, _, h, _ => by simp at h
  | t :: l, 0, i, v, _, h => by
    rw [show tksC (t :: l) = tkC t ++ tksC l from rfl, Nat.zero_mul, Nat.zero_add]
    simp only [List.getD_cons_zero] at h
    have hi : i < (tkC t).length := by
      obtain ⟨h, _⟩ := List.getElem?_eq_some_iff.1 h
      exact h
    rw [List.getElem?_append_left hi]
    exact h
  | t :: l, j + 1, i, v, h, h2 => by
    rw [show tksC (t :: l) = tkC t ++ tksC l from rfl]
    have h5 : (tkC t).length = 5 := rfl
    rw [List.getElem?_append_right (by omega), show (j + 1) * 5 + i - (tkC t).length = j * 5 + i by omega]
    exact tksC_get (l := l) (by simpa using h) (by simpa using h2)
theorem own_get {n sz : Nat} {xs : List Value} {b cap : Nat} {cur : Array Value} (h : ownOk n sz xs (some (b, cap, cur))) {j : Nat} {v : Value} (hv : xs[j]? = some v) : cur[j]? = some v := by
  obtain ⟨_, _, _, h4, _⟩ := h
  rw [← h4, List.getElem?_take] at hv
  split at hv
  · simpa using hv
  · cases hv
theorem own_some {n sz : Nat} {xs : List Value} {o : Ow} (h : ownOk n sz xs o) (hn : 0 < n) : ∃ b cap cur, o = some (b, cap, cur) ∧ n ≤ cap ∧ cur.size = cap * sz ∧ ∀ (j : Nat) (v : Value), xs[j]? = some v → cur[j]? = some v := by
  cases o with
  | none => have := h.1; omega
  | some o =>
    obtain ⟨b, cap, cur⟩ := o
    exact ⟨b, cap, cur, rfl, h.1, h.2.2.1, fun j v hv => own_get h hv⟩
/-- a slice of tokens that a function may read -/
def TokAt (w : World) (v : Value) (l : List Tk) : Prop :=
  (∃ p c, v = .slice p 0 c ∧ l = []) ∨ ∃ b off c arr et fr, v = .slice (some ⟨b, off, none⟩) l.length c ∧ w.heap[b]? = some (.cells arr et fr) ∧ ∀ j u, (tksC l)[j]? = some u → arr[off + j]? = some u
theorem TokAt.own {M : List Nat} {w0 w : World} {H : List Ent} {l : List Tk} {o : Ow} (hs : St M w0 w H) (ho : ownOk l.length 5 (tksC l) o) (hm : ∀ p ∈ ownH 33 o, p ∈ H) : TokAt w (ownV l.length o) l := by
  cases o with
  | none =>
    have : l = [] := List.eq_nil_of_length_eq_zero ho.1
    exact .inl ⟨none, 0, by rw [this]; rfl, this⟩
  | some o =>
    obtain ⟨b, cap, cur⟩ := o
    refine .inr ⟨b, 0, cap, cur, 33, (0, 0), rfl, hs.get (hm _ (List.Mem.head _)), fun j u h => ?_⟩
    rw [Nat.zero_add]
    exact own_get ho h
theorem eqL_tk (a b : Tk) : eqL (tkC a) (tkC b) = true ↔ a = b := by
  cases a; cases b
  simp [tkC, eqL, eqC]
  omega
set_option maxRecDepth 100000 in
set_option maxHeartbeats 4000000 in
theorem all_ok (v u : Value) (l m : List Tk) (w : World) (hv : TokAt w v l) (hu : TokAt w u m) (hl : l.length ≤ 1000000) (hm : m.length ≤ 1000000) :
    Calls Try.prog 14 #[v, u] w (Give (.bool (decide (l = m))) w) := by
  by_cases hlen : l.length = m.length
  · rcases Nat.eq_zero_or_pos l.length with h0 | h0
    · obtain rfl : l = [] := List.eq_nil_of_length_eq_zero h0
      obtain rfl : m = [] := List.eq_nil_of_length_eq_zero (by omega)
      obtain ⟨p, c, rfl⟩ : ∃ p c, v = .slice p 0 c := by
        rcases hv with ⟨p, c, h, _⟩ | ⟨b, off, c, _, _, _, h, _⟩
        · exact ⟨p, c, h⟩
        · exact ⟨_, _, h⟩
      obtain ⟨p', c', rfl⟩ : ∃ p c, u = .slice p 0 c := by
        rcases hu with ⟨p, c, h, _⟩ | ⟨b, off, c, _, _, _, h, _⟩
        · exact ⟨p, c, h⟩
        · exact ⟨_, _, h⟩
      refine give_of_W (vs := [.slice p 0 c, .slice p' 0 c']) Try.func14 rfl Try.ntmps14 (Nat.le_of_ble_eq_true rfl) (St.nil w _) ?_
      simp only [argL, Nat.zero_add]
      repeat' (first | ((show Wl _ _ _ _ _ _ _ _ _ _); first | (apply Wl.ev rfl rfl; (focus (first | ((show Ev _ _ _ _ _ _ _ (.move _) _ _); first | exact ev_move rfl) | ((show Ev _ _ _ _ _ _ _ (.assign _) _ _); first | exact ev_assign rfl) | ((show Ev _ _ _ _ _ _ _ (.binOp _ _ _ _ _) _ _); first | exact ev_nei rfl rfl | exact ev_lti rfl rfl) | ((show Ev _ _ _ _ _ _ _ (.call _) _ _); first | exact ev_len_slice (slT rfl) rfl)))) | apply Wl.nil) | ((show Wq _ _ _ _ _ _ _ _ _ _); first | (apply Wq.ev rfl rfl; (focus (first | ((show Ev _ _ _ _ _ _ _ (.move _) _ _); first | exact ev_move rfl) | ((show Ev _ _ _ _ _ _ _ (.assign _) _ _); first | exact ev_assign rfl) | ((show Ev _ _ _ _ _ _ _ (.binOp _ _ _ _ _) _ _); first | exact ev_nei rfl rfl | exact ev_lti rfl rfl) | ((show Ev _ _ _ _ _ _ _ (.call _) _ _); first | exact ev_len_slice (slT rfl) rfl))))) | ((show W _ _ _ _ _ _ _ _ _); first | apply W.seq | (refine W.rounds 1 ?_) | apply W.round | apply W.region | apply W.block | apply W.skip | (refine W.exit rfl ?_) | (refine W.condF rfl ?_) | (refine W.ret1 rfl rfl ?_; intro w hs)))
      exact ret_eq hs rfl
    · rcases hv with ⟨p, c, _, h⟩ | ⟨b, off, c, arr, et, fr, rfl, hb, hc⟩
      · rw [h] at h0; simp at h0
      rcases hu with ⟨p, c, _, h⟩ | ⟨b', off', c', arr', et', fr', rfl, hb', hc'⟩
      · rw [h] at hlen; simp only [List.length_nil] at hlen; omega
      have hs0 : St [] w w [⟨b, false, .cells arr et fr⟩, ⟨b', false, .cells arr' et' fr'⟩] := by
        refine ⟨rfl, rfl, rfl, Nat.le_refl _, fun _ _ _ => rfl, fun p hp => ?_, by simp⟩
        rcases List.mem_cons.1 hp with rfl | hp
        · exact ⟨hb, fun h => by cases h⟩
        · rcases List.mem_cons.1 hp with rfl | hp
          · exact ⟨hb', fun h => by cases h⟩
          · cases hp
      refine give_of_W (vs := [.slice (some ⟨b, off, none⟩) l.length c, .slice (some ⟨b', off', none⟩) m.length c']) Try.func14 rfl Try.ntmps14 (Nat.le_of_ble_eq_true rfl) hs0 ?_
      simp only [argL, Nat.zero_add]
      repeat' (first | ((show Wl _ _ _ _ _ _ _ _ _ _); first | (apply Wl.ev rfl rfl; (focus (first | ((show Ev _ _ _ _ _ _ _ (.move _) _ _); first | exact ev_move rfl) | ((show Ev _ _ _ _ _ _ _ (.assign _) _ _); first | exact ev_assign rfl) | ((show Ev _ _ _ _ _ _ _ (.binOp _ _ _ _ _) _ _); first | exact ev_nei rfl rfl) | ((show Ev _ _ _ _ _ _ _ (.call _) _ _); first | exact ev_len_slice (slT rfl) rfl)))) | apply Wl.nil) | ((show Wq _ _ _ _ _ _ _ _ _ _); first | (apply Wq.ev rfl rfl; (focus (first | ((show Ev _ _ _ _ _ _ _ (.move _) _ _); first | exact ev_move rfl) | ((show Ev _ _ _ _ _ _ _ (.assign _) _ _); first | exact ev_assign rfl) | ((show Ev _ _ _ _ _ _ _ (.binOp _ _ _ _ _) _ _); first | exact ev_nei rfl rfl) | ((show Ev _ _ _ _ _ _ _ (.call _) _ _); first | exact ev_len_slice (slT rfl) rfl))))) | ((show W _ _ _ _ _ _ _ _ _); first | apply W.seq | (refine W.loop (X := Nat) (fun j => [(0, .slice (some ⟨b, off, none⟩) l.length c), (1, .slice (some ⟨b', off', none⟩) m.length c'), (12, .int .i64 (l.length : Nat)), (13, .int .i64 (j : Nat))]) (fun _ => [⟨b, false, .cells arr et fr⟩, ⟨b', false, .cells arr' et' fr'⟩]) (fun j => j ≤ l.length ∧ ∀ i, i < j → l.getD i ⟨0, [], 0, 0, 0⟩ = m.getD i ⟨0, [], 0, 0, 0⟩) (fun j => l.length - j) 0 ⟨Nat.zero_le _, fun i h => absurd h (Nat.not_lt_zero _)⟩ (by repeat (first | exact SubL.nil | refine SubL.cons rfl ?_)) (by repeat (first | exact SubH.nil | apply SubH.keep | apply SubH.drop | exact List.Sublist.refl _)) ?_) | apply W.region | apply W.block | apply W.skip | (refine W.cond rfl ?_ ?_ <;> (intro h; try (exfalso; first | contradiction | omega | exact h rfl | exact h ⟨rfl, rfl⟩ | (simp_all; done))))))
      rintro j ⟨hj, heq⟩
      by_cases hlt : j < l.length
      · obtain ⟨A, hA⟩ : ∃ A, l.getD j ⟨0, [], 0, 0, 0⟩ = A := ⟨_, rfl⟩
        obtain ⟨B, hB⟩ : ∃ B, m.getD j ⟨0, [], 0, 0, 0⟩ = B := ⟨_, rfl⟩
        have ga : ∀ o', o' = off + j * 5 → ∀ i v, (tkC A)[i]? = some v → arr[o' + i]? = some v := fun o' e i v h => by
          rw [e, Nat.add_assoc]
          exact hc _ _ (tksC_get hlt (by rw [hA]; exact h))
        have gb : ∀ o', o' = off' + j * 5 → ∀ i v, (tkC B)[i]? = some v → arr'[o' + i]? = some v := fun o' e i v h => by
          rw [e, Nat.add_assoc]
          exact hc' _ _ (tksC_get (by omega) (by rw [hB]; exact h))
        by_cases hAB : A = B
        · have hn : ∀ i, i < j + 1 → l.getD i ⟨0, [], 0, 0, 0⟩ = m.getD i ⟨0, [], 0, 0, 0⟩ := fun i hi => by
            rcases Nat.lt_or_ge i j with h | h
            · exact heq i h
            · rw [show i = j by omega, hA, hB, hAB]
          repeat' (first | ((show Wl _ _ _ _ _ _ _ _ _ _); first | (apply Wl.ev rfl rfl; (focus (first | ((show Ev _ _ _ _ _ _ _ (.move _) _ _); first | exact ev_move rfl) | ((show Ev _ _ _ _ _ _ _ (.load _ _) _ _); first | exact ev_loadAggAt (agT rfl) (szT rfl) rfl (List.Mem.head _) (ga _ (by omega)) rfl | exact ev_loadAggAt (agT rfl) (szT rfl) rfl (List.Mem.tail _ (List.Mem.head _)) (gb _ (by omega)) rfl) | ((show Ev _ _ _ _ _ _ _ (.assign _) _ _); first | exact ev_assign rfl) | ((show Ev _ _ _ _ _ _ _ (.binOp _ _ _ _ _) _ _); first | exact ev_neFlatD (p := A = B) (flatT rfl) rfl rfl rfl (eqL_tk A B) | exact ev_lti rfl rfl | exact ev_add64 rfl rfl (by omega)) | ((show Ev _ _ _ _ _ _ _ (.indexAddr _ _ _) _ _); first | exact ev_indexAddr (slT rfl) (szT rfl) rfl rfl (by omega))))) | apply Wl.nil) | ((show Wq _ _ _ _ _ _ _ _ _ _); first | (apply Wq.ev rfl rfl; (focus (first | ((show Ev _ _ _ _ _ _ _ (.move _) _ _); first | exact ev_move rfl) | ((show Ev _ _ _ _ _ _ _ (.load _ _) _ _); first | exact ev_loadAggAt (agT rfl) (szT rfl) rfl (List.Mem.head _) (ga _ (by omega)) rfl | exact ev_loadAggAt (agT rfl) (szT rfl) rfl (List.Mem.tail _ (List.Mem.head _)) (gb _ (by omega)) rfl) | ((show Ev _ _ _ _ _ _ _ (.assign _) _ _); first | exact ev_assign rfl) | ((show Ev _ _ _ _ _ _ _ (.binOp _ _ _ _ _) _ _); first | exact ev_neFlatD (p := A = B) (flatT rfl) rfl rfl rfl (eqL_tk A B) | exact ev_lti rfl rfl | exact ev_add64 rfl rfl (by omega)) | ((show Ev _ _ _ _ _ _ _ (.indexAddr _ _ _) _ _); first | exact ev_indexAddr (slT rfl) (szT rfl) rfl rfl (by omega))))) | apply Wq.nil) | ((show W _ _ _ _ _ _ _ _ _); first | apply W.seq | (refine W.again (j + 1) ⟨by omega, hn⟩ (by omega) (by repeat (first | exact SubL.nil | refine SubL.cons rfl ?_)) (by repeat (first | exact SubH.nil | apply SubH.keep | apply SubH.drop | exact List.Sublist.refl _))) | (refine W.regionQ mixed (by kernel_rfl) ?_) | apply W.region | apply W.block | apply W.blk | apply W.skip | (refine W.cond rfl ?_ ?_ <;> (intro h; try (exfalso; first | contradiction | omega | exact h rfl | exact h ⟨rfl, rfl⟩ | (simp_all; done))))))
        · have hne : l ≠ m := fun e => hAB (by rw [← hA, ← hB, e])
          repeat' (first | ((show Wl _ _ _ _ _ _ _ _ _ _); first | (apply Wl.ev rfl rfl; (focus (first | ((show Ev _ _ _ _ _ _ _ (.move _) _ _); first | exact ev_move rfl) | ((show Ev _ _ _ _ _ _ _ (.load _ _) _ _); first | exact ev_loadAggAt (agT rfl) (szT rfl) rfl (List.Mem.head _) (ga _ (by omega)) rfl | exact ev_loadAggAt (agT rfl) (szT rfl) rfl (List.Mem.tail _ (List.Mem.head _)) (gb _ (by omega)) rfl) | ((show Ev _ _ _ _ _ _ _ (.assign _) _ _); first | exact ev_assign rfl) | ((show Ev _ _ _ _ _ _ _ (.binOp _ _ _ _ _) _ _); first | exact ev_neFlatD (p := A = B) (flatT rfl) rfl rfl rfl (eqL_tk A B) | exact ev_lti rfl rfl) | ((show Ev _ _ _ _ _ _ _ (.indexAddr _ _ _) _ _); first | exact ev_indexAddr (slT rfl) (szT rfl) rfl rfl (by omega))))) | apply Wl.nil) | ((show Wq _ _ _ _ _ _ _ _ _ _); first | (apply Wq.ev rfl rfl; (focus (first | ((show Ev _ _ _ _ _ _ _ (.move _) _ _); first | exact ev_move rfl) | ((show Ev _ _ _ _ _ _ _ (.load _ _) _ _); first | exact ev_loadAggAt (agT rfl) (szT rfl) rfl (List.Mem.head _) (ga _ (by omega)) rfl | exact ev_loadAggAt (agT rfl) (szT rfl) rfl (List.Mem.tail _ (List.Mem.head _)) (gb _ (by omega)) rfl) | ((show Ev _ _ _ _ _ _ _ (.assign _) _ _); first | exact ev_assign rfl) | ((show Ev _ _ _ _ _ _ _ (.binOp _ _ _ _ _) _ _); first | exact ev_neFlatD (p := A = B) (flatT rfl) rfl rfl rfl (eqL_tk A B) | exact ev_lti rfl rfl) | ((show Ev _ _ _ _ _ _ _ (.indexAddr _ _ _) _ _); first | exact ev_indexAddr (slT rfl) (szT rfl) rfl rfl (by omega))))) | apply Wq.nil) | ((show W _ _ _ _ _ _ _ _ _); first | apply W.seq | (refine W.regionQ mixed (by kernel_rfl) ?_) | apply W.region | apply W.block | apply W.skip | (refine W.cond rfl ?_ ?_ <;> (intro h; try (exfalso; first | contradiction | omega | exact h rfl | exact h ⟨rfl, rfl⟩ | (simp_all; done)))) | (refine W.ret1 rfl rfl ?_; intro w hs)))
          exact ret_eq hs (congrArg Value.bool (decide_eq_false hne).symm)
      · have he : l = m := List.ext_getElem hlen fun i h1 h2 => by
          have := heq i (by omega)
          simpa [List.getD, h1, h2] using this
        repeat' (first | ((show Wl _ _ _ _ _ _ _ _ _ _); first | (apply Wl.ev rfl rfl; (focus (first | ((show Ev _ _ _ _ _ _ _ (.assign _) _ _); first | exact ev_assign rfl) | ((show Ev _ _ _ _ _ _ _ (.binOp _ _ _ _ _) _ _); first | exact ev_lti rfl rfl)))) | apply Wl.nil) | ((show Wq _ _ _ _ _ _ _ _ _ _); first | (apply Wq.ev rfl rfl; (focus (first | ((show Ev _ _ _ _ _ _ _ (.assign _) _ _); first | exact ev_assign rfl) | ((show Ev _ _ _ _ _ _ _ (.binOp _ _ _ _ _) _ _); first | exact ev_lti rfl rfl))))) | ((show W _ _ _ _ _ _ _ _ _); first | apply W.seq | apply W.region | (refine W.exit rfl ?_) | (refine W.cond rfl ?_ ?_ <;> (intro h; try (exfalso; first | contradiction | omega | exact h rfl | exact h ⟨rfl, rfl⟩ | (simp_all; done)))) | (refine W.ret1 rfl rfl ?_; intro w hs)))
        exact ret_eq hs (congrArg Value.bool (decide_eq_true he).symm)
  · have hne : l ≠ m := fun e => hlen (by rw [e])
    obtain ⟨p, c, rfl⟩ : ∃ p c, v = .slice p l.length c := by
      rcases hv with ⟨p, c, h, rfl⟩ | ⟨b, off, c, _, _, _, h, _⟩
      · exact ⟨p, c, h⟩
      · exact ⟨_, _, h⟩
    obtain ⟨p', c', rfl⟩ : ∃ p c, u = .slice p m.length c := by
      rcases hu with ⟨p, c, h, rfl⟩ | ⟨b, off, c, _, _, _, h, _⟩
      · exact ⟨p, c, h⟩
      · exact ⟨_, _, h⟩
    refine give_of_W (vs := [.slice p l.length c, .slice p' m.length c']) Try.func14 rfl Try.ntmps14 (Nat.le_of_ble_eq_true rfl) (St.nil w _) ?_
    simp only [argL, Nat.zero_add]
    repeat' (first | ((show Wl _ _ _ _ _ _ _ _ _ _); first | (apply Wl.ev rfl rfl; (focus (first | ((show Ev _ _ _ _ _ _ _ (.move _) _ _); first | exact ev_move rfl) | ((show Ev _ _ _ _ _ _ _ (.assign _) _ _); first | exact ev_assign rfl) | ((show Ev _ _ _ _ _ _ _ (.binOp _ _ _ _ _) _ _); first | exact ev_nei rfl rfl) | ((show Ev _ _ _ _ _ _ _ (.call _) _ _); first | exact ev_len_slice (slT rfl) rfl)))) | apply Wl.nil) | ((show Wq _ _ _ _ _ _ _ _ _ _); first | (apply Wq.ev rfl rfl; (focus (first | ((show Ev _ _ _ _ _ _ _ (.move _) _ _); first | exact ev_move rfl) | ((show Ev _ _ _ _ _ _ _ (.assign _) _ _); first | exact ev_assign rfl) | ((show Ev _ _ _ _ _ _ _ (.binOp _ _ _ _ _) _ _); first | exact ev_nei rfl rfl) | ((show Ev _ _ _ _ _ _ _ (.call _) _ _); first | exact ev_len_slice (slT rfl) rfl))))) | ((show W _ _ _ _ _ _ _ _ _); first | apply W.seq | apply W.region | (refine W.cond rfl ?_ ?_ <;> (intro h; try (exfalso; first | contradiction | omega | exact h rfl | exact h ⟨rfl, rfl⟩ | (simp_all; done)))) | (refine W.ret1 rfl rfl ?_; intro w hs)))
    exact ret_eq hs (congrArg Value.bool (decide_eq_false hne).symm)
theorem short_ok (s : List UInt8) (hs : s.length ≤ 9223372036854775807) (w : World) : Calls Try.prog 11 #[st s] w (Give (st (s.take 8193)) w) := by
  refine give_of_W (vs := [st s]) Try.func11 rfl Try.ntmps11 (Nat.le_of_ble_eq_true rfl) (St.nil w _) ?_
  simp only [argL]
  repeat' (first | ((show Wl _ _ _ _ _ _ _ _ _ _); first | (apply Wl.ev rfl rfl; (focus (first | ((show Ev _ _ _ _ _ _ _ (.move _) _ _); first | exact ev_move rfl) | ((show Ev _ _ _ _ _ _ _ (.assign _) _ _); first | exact ev_assign rfl) | ((show Ev _ _ _ _ _ _ _ (.call _) _ _); first | exact ev_len_string (strT rfl) rfl | exact ev_min rfl rfl) | ((show Ev _ _ _ _ _ _ _ (.slice _ _ _ _ _) _ _); first | exact (ev_slice_string_hi (strT rfl) rfl rfl (by omega)).to (show _ = st (s.take (min s.length 8193)) from congrArg (fun k => st (s.take k)) (by omega)))))) | apply Wl.nil) | ((show W _ _ _ _ _ _ _ _ _); first | apply W.seq | apply W.region | (refine W.ret1 rfl rfl ?_; intro w hs)))
  exact ret_eq hs (congrArg st (by rw [List.take_eq_take_iff]; omega))
/-- the tokens of the text that shows whether the layer does anything -/
def wkS : List Tk := [⟨1, [97, 49], 0, 0, 0⟩, ⟨4, [43, 61], 0, 2, 0⟩, ⟨3, [46, 53], 32768, 4, 0⟩, ⟨4, [59], 0, 6, 0⟩]
theorem wk_lex : lexS [97, 49, 43, 61, 46, 53, 59, 32, 47, 47, 32, 120] = (wkS, 0, 0) := by kernel_rfl
theorem wakes_ok (w : World) (hm : Mx w) : Calls Try.prog 10 #[] w (Give (.bool true) w) := by
  refine give_of_W (vs := []) Try.func10 rfl Try.ntmps10 (Nat.le_of_ble_eq_true rfl) (St.nil w _) ?_
  simp only [argL]
  have lx : ∀ w, Mx w → Calls Try.prog 13 #[st [97, 49, 43, 61, 46, 53, 59, 32, 47, 47, 32, 120]] w (Gives (fun o : Ow => .tuple #[ownV 4 o, spotV 0 0]) (fun o => ownOk 4 5 (tksC wkS) o) w (fun _ => []) (owN 33)) := fun w h => by
    have := lex_ok [97, 49, 43, 61, 46, 53, 59, 32, 47, 47, 32, 120] (by simp) w h
    rw [wk_lex] at this
    exact this
  repeat' (first | ((show Wl _ _ _ _ _ _ _ _ _ _); first | (apply Wl.ev rfl rfl; (focus (first | ((show Ev _ _ _ _ _ _ _ (.move _) _ _); first | exact ev_move rfl) | ((show Ev _ _ _ _ _ _ _ (.load _ _) _ _); first | exact ev_loadAt (agT rfl) rfl (by repeat (first | exact List.Mem.head _ | apply List.Mem.tail)) (hget _ _ rfl) | exact ev_loadWhole (agT rfl) (szT rfl) rfl (by repeat (first | exact List.Mem.head _ | apply List.Mem.tail)) rfl) | ((show Ev _ _ _ _ _ _ _ (.fieldAddr _ _ _) _ _); first | exact ev_fieldAddr0 (fldT rfl) rfl | exact ev_fieldAddr (fldT rfl) rfl) | ((show Ev _ _ _ _ _ _ _ (.assign _) _ _); first | exact ev_assign rfl) | ((show Ev _ _ _ _ _ _ _ (.pick _ _ _) _ _); first | exact ev_pickT rfl rfl) | ((show Ev _ _ _ _ _ _ _ (.binOp _ _ _ _ _) _ _); first | exact ev_eqi rfl rfl | exact ev_eqsT rfl rfl (by decide) | exact ev_eqFlatD (flatT rfl) rfl rfl rfl eqL_ii) | ((show Ev _ _ _ _ _ _ _ (.extract _ _) _ _); first | exact ev_extract rfl rfl) | ((show Ev _ _ _ _ _ _ _ (.build _ _) _ _); first | (apply ev_build (bldT rfl) rfl; simp [fillP]; rfl)) | ((show Ev _ _ _ _ _ _ _ (.call _) _ _); first | exact ev_len_slice (slT rfl) rfl) | ((show Ev _ _ _ _ _ _ _ (.indexAddr _ _ _) _ _); first | exact ev_indexAddr (slT rfl) (szT rfl) rfl rfl (by omega))))) | ((show Wl _ _ _ _ _ _ _ (⟨_, .call ⟨.value (.func 13), _, _⟩, _, _, _, _⟩ :: _) _ _); refine wl_callX rfl rfl has13 rfl (fun w hs => lx w (hm.st hs (by simp)) ) ?_; intro o ho; obtain ⟨lb, cap, cur, rfl, hcap, hsz, hget⟩ := own_some ho (by decide); simp only [ents_owN, ownH, List.singleton_append, ownV]; try simp only [ents, List.map_cons, List.map_nil, List.cons_append, List.nil_append]) | apply Wl.nil | (refine wl_alloc rfl rfl (zeroT rfl) ?_; intro b) | (refine wl_storeWhole rfl rfl rfl (szT rfl) rfl (by repeat (first | exact Upd.here | apply Upd.there)) (by rfl) ?_)) | ((show Wq _ _ _ _ _ _ _ _ _ _); first | (apply Wq.ev rfl rfl; (focus (first | ((show Ev _ _ _ _ _ _ _ (.move _) _ _); first | exact ev_move rfl) | ((show Ev _ _ _ _ _ _ _ (.load _ _) _ _); first | exact ev_loadAt (agT rfl) rfl (by repeat (first | exact List.Mem.head _ | apply List.Mem.tail)) (hget _ _ rfl) | exact ev_loadWhole (agT rfl) (szT rfl) rfl (by repeat (first | exact List.Mem.head _ | apply List.Mem.tail)) rfl) | ((show Ev _ _ _ _ _ _ _ (.fieldAddr _ _ _) _ _); first | exact ev_fieldAddr0 (fldT rfl) rfl | exact ev_fieldAddr (fldT rfl) rfl) | ((show Ev _ _ _ _ _ _ _ (.assign _) _ _); first | exact ev_assign rfl) | ((show Ev _ _ _ _ _ _ _ (.pick _ _ _) _ _); first | exact ev_pickT rfl rfl) | ((show Ev _ _ _ _ _ _ _ (.binOp _ _ _ _ _) _ _); first | exact ev_eqi rfl rfl | exact ev_eqsT rfl rfl (by decide) | exact ev_eqFlatD (flatT rfl) rfl rfl rfl eqL_ii) | ((show Ev _ _ _ _ _ _ _ (.extract _ _) _ _); first | exact ev_extract rfl rfl) | ((show Ev _ _ _ _ _ _ _ (.build _ _) _ _); first | (apply ev_build (bldT rfl) rfl; simp [fillP]; rfl)) | ((show Ev _ _ _ _ _ _ _ (.call _) _ _); first | exact ev_len_slice (slT rfl) rfl) | ((show Ev _ _ _ _ _ _ _ (.indexAddr _ _ _) _ _); first | exact ev_indexAddr (slT rfl) (szT rfl) rfl rfl (by omega)))))) | ((show W _ _ _ _ _ _ _ _ _); first | apply W.seq | apply W.region | (refine W.ret1 rfl rfl ?_; intro w hs)))
  all_goals exact ret_eq hs rfl
end Go.Proofs.Ythmkggadgcdmfaa
