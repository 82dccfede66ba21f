/- Walks: small functions of the layer that stands ahead of the parser. No condition. -/
import Derived.Test.YthhfandandfeeaaDoorTA
import Derived.Test.YthhfandandfeeaaDoorS1
import Derived.Test.YthhfandandfeeaaDoorLI
import Derived.Test.YthhfandandfeeaaDoorRows
namespace Go.PB
open Go.RowKit
def ro (H : List Ent) : List Ent := H.map fun p => ⟨p.b, false, p.o⟩
theorem mem_ro {H : List Ent} {b : Nat} {wr : Bool} {o : Obj} (h : (⟨b, wr, o⟩ : Ent) ∈ H) : (⟨b, false, o⟩ : Ent) ∈ ro H := List.mem_map.2 ⟨_, h, rfl⟩
/-- what is known may be read -/
theorem St.reads {M : List Nat} {w0 w : World} {H : List Ent} (h : St M w0 w H) : St [] w w (ro H) := by
  refine ⟨rfl, rfl, rfl, Nat.le_refl _, fun _ _ _ => rfl, fun p hp => ?_, ?_⟩
  · obtain ⟨q, hq, rfl⟩ := List.mem_map.1 hp
    exact ⟨(h.own q hq).1, fun e => by cases e⟩
  · unfold ro
    rw [List.pairwise_map]
    exact List.Pairwise.imp (fun _ _ => ⟨rfl, rfl⟩) h.apart
end Go.PB
namespace Go.Proofs.YthhfandandfeeaaDoor
open Go.PB Go.RowKit
attribute [local irreducible] Go.Calls
/-- a slice of tokens in blocks that are known -/
def RdE (R : List Ent) (v : Value) (l : List Tk) : Prop :=
  (∃ p c, v = .slice p 0 c ∧ l = []) ∨ ∃ b off c arr et fr wr, v = .slice (some ⟨b, off, none⟩) l.length c ∧ (⟨b, wr, .cells arr et fr⟩ : Ent) ∈ R ∧ l.length ≤ c ∧ ∀ (j : Nat) u, (tksC l)[j]? = some u → arr[off + j]? = some u
theorem RdE.ro {R : List Ent} {v : Value} {l : List Tk} (h : RdE R v l) : RdE (ro R) v l := by
  rcases h with h | ⟨b, off, c, arr, et, fr, wr, h1, h2, h3⟩
  · exact .inl h
  · exact .inr ⟨b, off, c, arr, et, fr, false, h1, mem_ro h2, h3⟩
theorem RdE.mono {R R' : List Ent} {v : Value} {l : List Tk} (h : RdE R v l) (hR : ∀ p ∈ R, p ∈ R') : RdE R' v l := by
  rcases h with h | ⟨b, off, c, arr, et, fr, wr, h1, h2, h3⟩
  · exact .inl h
  · exact .inr ⟨b, off, c, arr, et, fr, wr, h1, hR _ h2, h3⟩
/-- a row that is not empty -/
theorem RdE.cons {R : List Ent} {v : Value} {l : List Tk} (h : RdE R v l) (h0 : 0 < l.length) : ∃ b off c arr et fr wr, v = .slice (some ⟨b, off, none⟩) l.length c ∧ (⟨b, wr, .cells arr et fr⟩ : Ent) ∈ R ∧ l.length ≤ c ∧
    ∀ j, j < l.length → ∀ (f : Nat) u, (tkC (l.getD j tk0))[f]? = some u → ∀ o, o = off + (j * 5 + f) → arr[o]? = some u := by
  rcases h with ⟨p, c, _, rfl⟩ | ⟨b, off, c, arr, et, fr, wr, h1, h2, h3, h4⟩
  · simp at h0
  · exact ⟨b, off, c, arr, et, fr, wr, h1, h2, h3, fun j hj f u hu o ho => by rw [ho]; exact h4 _ _ (tksC_get hj hu)⟩
theorem RdE.len {R : List Ent} {v : Value} {l : List Tk} (h : RdE R v l) : ∃ p c, v = .slice p l.length c := by
  rcases h with ⟨p, c, rfl, rfl⟩ | ⟨b, off, c, arr, et, fr, wr, rfl, _⟩
  · exact ⟨p, c, rfl⟩
  · exact ⟨_, c, rfl⟩
theorem tksC_cons (t : Tk) (l : List Tk) : tksC (t :: l) = tkC t ++ tksC l := rfl
theorem RdE.tail {R : List Ent} {b off c : Nat} {t : Tk} {l : List Tk} {arr : Array Value} {et : TypeId} {fr : Nat × Nat} {wr : Bool} (hm : (⟨b, wr, .cells arr et fr⟩ : Ent) ∈ R) (hc : l.length + 1 ≤ c)
    (hg : ∀ (j : Nat) u, (tksC (t :: l))[j]? = some u → arr[off + j]? = some u) {m c' o : Nat} (h1 : m = l.length) (h2 : c' = c - 1) (h3 : o = if c = 1 then off else off + 5) : RdE R (.slice (some ⟨b, o, none⟩) m c') l := by
  subst h1 h2 h3
  rcases l with _ | ⟨t2, l⟩
  · exact .inl ⟨_, _, rfl, rfl⟩
  · refine .inr ⟨b, off + 5, c - 1, arr, et, fr, wr, ?_, hm, by simp only [List.length_cons] at hc ⊢; omega, fun j u hu => ?_⟩
    · rw [if_neg (by simp only [List.length_cons] at hc; omega)]
    · have := hg (j + 5) u (by rw [tksC_cons]; simpa [tkC] using hu)
      rwa [show off + 5 + j = off + (j + 5) by omega]
/-- a row of one's own -/
theorem RdE.own {H : List Ent} {l : List Tk} {o : Ow} (ho : ownOk l.length 5 (tksC l) o) (hm : ∀ p ∈ ownH 35 o, p ∈ H) : RdE H (ownV l.length o) l := by
  cases o with
  | none =>
    have : l = [] := List.eq_nil_of_length_eq_zero ho.1
    exact .inl ⟨none, 0, by rw [this]; rfl, this⟩
  | some o =>
    obtain ⟨b, cap, cur⟩ := o
    refine .inr ⟨b, 0, cap, cur, 35, (0, 0), true, rfl, hm _ (List.Mem.head _), ho.1, fun j u h => ?_⟩
    rw [Nat.zero_add]
    exact own_get ho h
theorem prefix_take (s : List UInt8) (hs : s.length ≤ 9223372036854775807) (w : World) : Calls Tryd.prog 70 #[st s, st [71, 76, 95]] w (Give (.bool (s.take 3 == [71, 76, 95])) w) := by
  refine give_of_W (vs := [st s, st [71, 76, 95]]) Tryd.func70 rfl Tryd.ntmps70 (Nat.le_of_ble_eq_true rfl) (St.nil w _) ?_
  simp only [argL]
  by_cases h3 : 3 ≤ s.length
  · repeat' (first | (apply gL; first | (apply Wl.ev rfl rfl; (focus (first | exact ev_move rfl | exact ev_assign rfl | (apply gPic; first | exact ev_pickT rfl rfl | exact ev_pickF rfl rfl) | (apply gBin; first | exact ev_eqs rfl rfl | exact ev_gei rfl rfl) | (apply gCal; first | exact ev_len_string (strT rfl) rfl) | (apply gSli; first | exact (ev_slice_string_hi (strT rfl) rfl rfl (by simp; omega)).to (show _ = st (s.take 3) from rfl))))) | apply Wl.nil | (refine Wl.skip rfl rfl ?_) | ((fail_if_success (apply Wl.chk rfl)); refine Wl.split rfl rfl ?_ ?_ <;> (intro h; try (exfalso; first | contradiction | omega | exact h rfl | exact h ⟨rfl, rfl⟩ | (simp_all; done))))) | (apply gQ; first | (apply Wq.ev rfl rfl; (focus (first | exact ev_move rfl | exact ev_assign rfl | (apply gPic; first | exact ev_pickT rfl rfl | exact ev_pickF rfl rfl) | (apply gBin; first | exact ev_eqs rfl rfl | exact ev_gei rfl rfl) | (apply gCal; first | exact ev_len_string (strT rfl) rfl) | (apply gSli; first | exact (ev_slice_string_hi (strT rfl) rfl rfl (by simp; omega)).to (show _ = st (s.take 3) from rfl)))))) | ((show W _ _ _ _ _ _ _ _ _); first | apply W.seq | apply W.region | (refine W.ret1 rfl rfl ?_; intro w hs)))
    all_goals first
      | exact absurd (show (([71, 76, 95] : List UInt8).length : Int) ≤ s.length by simp; omega) h
      | exact ret_eq hs (congrArg Value.bool (by rw [Bool.eq_iff_iff]; simp))
  · have hf : (s.take 3 == [71, 76, 95]) = false := by
      rw [Bool.eq_false_iff]
      intro e
      have := congrArg List.length (eq_of_beq e)
      simp at this
      omega
    repeat' (first | (apply gL; first | (apply Wl.ev rfl rfl; (focus (first | exact ev_move rfl | exact ev_assign rfl | (apply gPic; first | exact ev_pickT rfl rfl | exact ev_pickF rfl rfl) | (apply gBin; first | exact ev_eqs rfl rfl | exact ev_gei rfl rfl) | (apply gCal; first | exact ev_len_string (strT rfl) rfl) | (apply gSli; first | exact (ev_slice_string_hi (strT rfl) rfl rfl (by simp; omega)).to (show _ = st (s.take 3) from rfl))))) | apply Wl.nil | (refine Wl.skip rfl rfl ?_) | ((fail_if_success (apply Wl.chk rfl)); refine Wl.split rfl rfl ?_ ?_ <;> (intro h; try (exfalso; first | contradiction | omega | exact h rfl | exact h ⟨rfl, rfl⟩ | (simp_all; done))))) | (apply gQ; first | (apply Wq.ev rfl rfl; (focus (first | exact ev_move rfl | exact ev_assign rfl | (apply gPic; first | exact ev_pickT rfl rfl | exact ev_pickF rfl rfl) | (apply gBin; first | exact ev_eqs rfl rfl | exact ev_gei rfl rfl) | (apply gCal; first | exact ev_len_string (strT rfl) rfl) | (apply gSli; first | exact (ev_slice_string_hi (strT rfl) rfl rfl (by simp; omega)).to (show _ = st (s.take 3) from rfl)))))) | ((show W _ _ _ _ _ _ _ _ _); first | apply W.seq | apply W.region | (refine W.ret1 rfl rfl ?_; intro w hs)))
    all_goals first
      | exact ret_eq hs (congrArg Value.bool hf.symm)
      | exact absurd h (by simp; omega)
theorem hasPrefix_ok (s : List UInt8) (hs : s.length ≤ 9223372036854775807) (w : World) : Calls Tryd.prog 60 #[st s, st [71, 76, 95]] w (Give (.bool (s.take 3 == [71, 76, 95])) w) := by
  refine give_of_W (vs := [st s, st [71, 76, 95]]) Tryd.func60 rfl Tryd.ntmps60 (Nat.le_of_ble_eq_true rfl) (St.nil w _) ?_
  simp only [argL]
  repeat' (first | (apply gL; first | (apply Wl.ev rfl rfl; (focus (first | exact ev_move rfl | exact ev_assign rfl))) | ((show Wl _ _ _ _ _ _ _ (⟨_, .call ⟨.value (.func 70), _, _⟩, _, _, _, _⟩ :: _) _ _); refine wl_call0 rfl rfl has70 rfl (fun w _ => prefix_take s hs w) ?_) | apply Wl.nil) | (apply gQ; first | (apply Wq.ev rfl rfl; (focus (first | exact ev_move rfl | exact ev_assign rfl)))) | ((show W _ _ _ _ _ _ _ _ _); first | apply W.seq | apply W.region | (refine W.ret1 rfl rfl ?_; intro w hs)))
  exact ret_eq hs rfl
theorem index_uu : ∀ s : List UInt8, 0 ≤ Lib.index s [95, 95] ↔ uuB s = true
  | [] => by decide
  | a :: l => by
    have ih := index_uu l
    have hg := Lib.index_ge l [95, 95]
    have hp : List.isPrefixOf [95, 95] (a :: l) = (a == 95 && l.head? == some 95) := by
      cases l with
      | nil => simp [List.isPrefixOf]
      | cons b l =>
        simp only [List.isPrefixOf, Bool.and_true, List.head?_cons]
        rw [show ((95 : UInt8) == a) = (a == 95) from Bool.beq_comm .., show ((95 : UInt8) == b) = (b == 95) from Bool.beq_comm ..]
        rfl
    simp only [Lib.index, uuB, hp, Bool.or_eq_true, ← ih]
    split
    · rename_i h
      simp [h]
    · rename_i h
      simp only [h, Bool.false_eq_true, false_or]
      split
      · rename_i h1
        simp only [beq_iff_eq] at h1
        rw [h1]
      · rename_i h1
        simp only [beq_iff_eq] at h1
        omega
theorem contains_uu (s : List UInt8) : Lib.contains s [95, 95] = uuB s := by
  rw [Bool.eq_iff_iff, ← index_uu]
  unfold Lib.contains
  rw [decide_eq_true_eq]
theorem kept_ok (s : List UInt8) (hs : s.length < 4294967281) (w : World) (hm : Mx w) : Calls Tryd.prog 33 #[st s] w (Give (.bool (keptB s)) w) := by
  refine give_of_W (vs := [st s]) Tryd.func33 rfl Tryd.ntmps33 (Nat.le_of_ble_eq_true rfl) (St.nil w _) ?_
  simp only [argL]
  have ct : ∀ w, Mx w → Calls Tryd.prog 61 #[st s, st [95, 95]] w (Give (.bool (uuB s)) w) := fun w ⟨m, hm⟩ => by
    refine (Tryd.strings_Contains ⟨s.toArray⟩ ⟨[95, 95].toArray⟩ m w (by simp only [ByteArray.size]; simpa using hs) hm).mono ?_
    rintro e w' ⟨rfl, rfl⟩
    refine ⟨?_, Turn.refl _⟩
    rw [← contains_uu]
  obtain ⟨B, hB⟩ : ∃ B, (s.take 3 == [71, 76, 95]) = B := ⟨_, rfl⟩
  have hp : ∀ w, Calls Tryd.prog 60 #[st s, st [71, 76, 95]] w (Give (.bool B) w) := fun w => by rw [← hB]; exact hasPrefix_ok s (by omega) w
  have hk : keptB s = (B || uuB s) := by rw [← hB]; rfl
  cases B
  · repeat' (first | (apply gL; first | (apply Wl.ev rfl rfl; (focus (first | exact ev_move rfl | exact ev_assign rfl | exact ev_pickF rfl rfl))) | ((show Wl _ _ _ _ _ _ _ (⟨_, .call ⟨.value (.func 60), _, _⟩, _, _, _, _⟩ :: _) _ _); refine wl_call0 rfl rfl has60 rfl (fun w _ => hp w) ?_) | ((show Wl _ _ _ _ _ _ _ (⟨_, .call ⟨.value (.func 61), _, _⟩, _, _, _, _⟩ :: _) _ _); refine wl_call0 rfl rfl has61 rfl (fun w hs => ct w (hm.st hs (by simp))) ?_) | apply Wl.nil) | (apply gQ; first | (apply Wq.ev rfl rfl; (focus (first | exact ev_move rfl | exact ev_assign rfl | exact ev_pickF rfl rfl)))) | ((show W _ _ _ _ _ _ _ _ _); first | apply W.seq | apply W.region | (refine W.ret1 rfl rfl ?_; intro w hs)))
    all_goals exact ret_eq hs (by rw [hk]; simp)
  · repeat' (first | (apply gL; first | (apply Wl.ev rfl rfl; (focus (first | exact ev_move rfl | exact ev_assign rfl | exact ev_pickT rfl rfl))) | ((show Wl _ _ _ _ _ _ _ (⟨_, .call ⟨.value (.func 60), _, _⟩, _, _, _, _⟩ :: _) _ _); refine wl_call0 rfl rfl has60 rfl (fun w _ => hp w) ?_) | apply Wl.nil | (refine Wl.skip rfl rfl ?_)) | (apply gQ; first | (apply Wq.ev rfl rfl; (focus (first | exact ev_move rfl | exact ev_assign rfl | exact ev_pickT rfl rfl)))) | ((show W _ _ _ _ _ _ _ _ _); first | apply W.seq | apply W.region | (refine W.ret1 rfl rfl ?_; intro w hs)))
    all_goals exact ret_eq hs (by rw [hk]; simp)
set_option maxRecDepth 100000 in
set_option maxHeartbeats 1000000 in
theorem pone_ok {M : List Nat} {w0 w : World} {H : List Ent} {v : Value} {l : List Tk} (hst : St M w0 w H) (hv : RdE H v l) : Calls Tryd.prog 35 #[v] w (Give (.tuple #[st ((oneW l).getD []), .bool (oneW l).isSome]) w) := by
  by_cases h1 : l.length = 1
  · obtain ⟨b, off, c, arr, et, fr, wr, rfl, hm, hc, hg⟩ := hv.ro.cons (by omega)
    obtain ⟨t, rfl⟩ : ∃ t, l = [t] := List.length_eq_one_iff.1 h1
    refine give_of_W (vs := [.slice (some ⟨b, off, none⟩) 1 c]) Tryd.func35 rfl Tryd.ntmps35 (Nat.le_of_ble_eq_true rfl) hst.reads ?_
    simp only [argL]
    have g0 := hg 0 (by simp) 0 _ rfl
    have g1 := hg 0 (by simp) 1 _ rfl
    by_cases hk : t.k = 1
    · have ho : oneW [t] = some t.t := by simp [oneW, hk]
      repeat' (first | (apply gL; first | (apply Wl.ev rfl rfl; (focus (first | exact ev_move rfl | (apply gLoa; first | exact ev_loadAt (agT rfl) rfl hm (g0 _ (by omega)) | exact ev_loadAt (agT rfl) rfl hm (g1 _ (by omega))) | (apply gFie; first | exact ev_fieldAddr (fldT rfl) rfl) | exact ev_assign rfl | exact ev_pickF rfl rfl | exact ev_nei rfl rfl | (apply gCal; first | exact ev_len_slice (slT rfl) rfl) | (apply gIxA; first | exact ev_indexAddr (slT rfl) (szT rfl) rfl rfl (by omega))))) | apply Wl.nil) | (apply gQ; first | (apply Wq.ev rfl rfl; (focus (first | exact ev_move rfl | (apply gLoa; first | exact ev_loadAt (agT rfl) rfl hm (g0 _ (by omega)) | exact ev_loadAt (agT rfl) rfl hm (g1 _ (by omega))) | (apply gFie; first | exact ev_fieldAddr (fldT rfl) rfl) | exact ev_assign rfl | exact ev_pickF rfl rfl | exact ev_nei rfl rfl | (apply gCal; first | exact ev_len_slice (slT rfl) rfl) | (apply gIxA; first | exact ev_indexAddr (slT rfl) (szT rfl) rfl rfl (by omega)))))) | ((show W _ _ _ _ _ _ _ _ _); first | apply W.seq | apply W.region | apply W.skip | (refine W.cond rfl ?_ ?_ <;> (intro h; try (exfalso; first | contradiction | omega | exact h rfl | exact h ⟨rfl, rfl⟩ | (simp_all; done)))) | (refine W.ret2 rfl rfl rfl ?_; intro w hs)))
      all_goals exact ret_eq hs (by rw [ho]; rfl)
    · have ho : oneW [t] = none := by simp [oneW, hk]
      repeat' (first | (apply gL; first | (apply Wl.ev rfl rfl; (focus (first | exact ev_move rfl | (apply gLoa; first | exact ev_loadAt (agT rfl) rfl hm (g0 _ (by omega)) | exact ev_loadAt (agT rfl) rfl hm (g1 _ (by omega))) | (apply gFie; first | exact ev_fieldAddr (fldT rfl) rfl) | exact ev_assign rfl | exact ev_pickF rfl rfl | exact ev_nei rfl rfl | (apply gCal; first | exact ev_len_slice (slT rfl) rfl) | (apply gIxA; first | exact ev_indexAddr (slT rfl) (szT rfl) rfl rfl (by omega))))) | apply Wl.nil) | (apply gQ; first | (apply Wq.ev rfl rfl; (focus (first | exact ev_move rfl | (apply gLoa; first | exact ev_loadAt (agT rfl) rfl hm (g0 _ (by omega)) | exact ev_loadAt (agT rfl) rfl hm (g1 _ (by omega))) | (apply gFie; first | exact ev_fieldAddr (fldT rfl) rfl) | exact ev_assign rfl | exact ev_pickF rfl rfl | exact ev_nei rfl rfl | (apply gCal; first | exact ev_len_slice (slT rfl) rfl) | (apply gIxA; first | exact ev_indexAddr (slT rfl) (szT rfl) rfl rfl (by omega)))))) | ((show W _ _ _ _ _ _ _ _ _); first | apply W.seq | apply W.region | (refine W.cond rfl ?_ ?_ <;> (intro h; try (exfalso; first | contradiction | omega | exact h rfl | exact h ⟨rfl, rfl⟩ | (simp_all; done)))) | (refine W.ret2 rfl rfl rfl ?_; intro w hs)))
      all_goals exact ret_eq hs (by rw [ho]; rfl)
  · obtain ⟨p, c, rfl⟩ := hv.len
    have ho : oneW l = none := by
      unfold oneW
      split
      · simp at h1
      · rfl
    refine give_of_W (vs := [.slice p l.length c]) Tryd.func35 rfl Tryd.ntmps35 (Nat.le_of_ble_eq_true rfl) (St.nil w _) ?_
    simp only [argL]
    repeat' (first | (apply gL; first | (apply Wl.ev rfl rfl; (focus (first | exact ev_move rfl | exact ev_assign rfl | exact ev_pickT rfl rfl | exact ev_nei rfl rfl | (apply gCal; first | exact ev_len_slice (slT rfl) rfl)))) | apply Wl.nil | (refine Wl.skip rfl rfl ?_) | ((fail_if_success (apply Wl.chk rfl)); refine Wl.split rfl rfl ?_ ?_ <;> (intro h; try (exfalso; first | contradiction | omega | exact h rfl | exact h ⟨rfl, rfl⟩ | (simp_all; done))))) | (apply gQ; first | (apply Wq.ev rfl rfl; (focus (first | exact ev_move rfl | exact ev_assign rfl | exact ev_pickT rfl rfl | exact ev_nei rfl rfl | (apply gCal; first | exact ev_len_slice (slT rfl) rfl))))) | ((show W _ _ _ _ _ _ _ _ _); first | apply W.seq | apply W.region | (refine W.condT rfl ?_) | (refine W.ret2 rfl rfl rfl ?_; intro w hs)))
    all_goals exact ret_eq hs (by rw [ho]; rfl)
end Go.Proofs.YthhfandandfeeaaDoor
