/- What a directive does to a machine: plain facts on its memory. No condition. -/
import Derived.Test.YthhfandandfeeaaDoorMF
namespace Go.PB
open Go.RowKit
section
variable {P : Program} {ops : Array Oper} {Q : Exit → Act → World → Prop} {M : List Nat} {w0 : World} {n : Nat} {D : List Deferred} {L : List (Nat × Value)} {H : List Ent} {rest : List Oper}
  {oty t : TypeId} {pos : String} {after : Array Edge} {g : Option (Nat × Bool)} {x y : Operand}
theorem wl_delete0 {kt e : TypeId} {b c : Nat} {tab : Tab} {key : List UInt8} {H' : List Ent} (hg : gdv ops L g = some true) (ht : Mp P t kt e) (hx : evo L x = some (.map (some b))) (hy : evo L y = some (.string ⟨key.toArray⟩))
    (hu : Upd H b (mobj tab c) (mobj (tdel tab key) c) H') (h : Wl P ops Q M w0 n D rest L H') :
    Wl P ops Q M w0 n D (⟨none, .call { callee := .builtin .delete, args := #[x, y], argTypes := #[t, kt] }, oty, pos, after, g⟩ :: rest) L H := by
  unfold Wl at h ⊢
  intro a w hf hst
  unfold wpList
  rw [if_pos (by rw [wanted_of hf hg])]
  refine .inl ?_
  unfold Oper.wp
  have hr := run_delete (oty := oty) (key := key) ht (hst.get hu.mem)
  have : (execOp a.eval ⟨none, .call { callee := .builtin .delete, args := #[x, y], argTypes := #[t, kt] }, oty, pos, after, g⟩).run P w = .ok (.value (.tuple #[])) { w with heap := w.heap.setIfInBounds b (mobj (tdel tab key) c) } := by
    simp [execOp, resolve, invoke, builtin, hf.eval hx, hf.eval hy, hr]
  rw [this]
  exact h _ _ hf (del_st hst hu)
theorem Upd.app {A T T' : List Ent} {b : Nat} {o o' : Obj} (h : Upd T b o o' T') : Upd (A ++ T) b o o' (A ++ T') := by
  obtain ⟨H1, H2, rfl, rfl⟩ := h
  exact ⟨A ++ H1, H2, by simp, by simp⟩
end
end Go.PB
namespace Go.Proofs.YthhfandandfeeaaDoor
open Go.PB Go.RowKit
attribute [local irreducible] Go.Calls
theorem RdE.cons2 {R : List Ent} {v : Value} {h : Tk} {rest : List Tk} (hv : RdE R v (h :: rest)) : ∃ b off c o1 arr et fr wr, v = .slice (some ⟨b, off, none⟩) (rest.length + 1) c ∧ (if c = 1 then off else off + 5) = o1 ∧ (⟨b, wr, .cells arr et fr⟩ : Ent) ∈ R ∧ rest.length + 1 ≤ c ∧
    (∀ (f : Nat) u, (tkC h)[f]? = some u → ∀ o, o = off + f → arr[o]? = some u) ∧ RdE R (.slice (some ⟨b, o1, none⟩) rest.length (c - 1)) rest := by
  rcases hv with ⟨p, c, _, h⟩ | ⟨b, off, c, arr, et, fr, wr, h1, h2, h3, h4⟩
  · cases h
  · refine ⟨b, off, c, _, arr, et, fr, wr, h1, rfl, h2, h3, fun f u hu o ho => ?_, RdE.tail h2 h3 h4 rfl rfl rfl⟩
    rw [ho]
    refine h4 f u ?_
    rw [tksC_cons]
    obtain ⟨hf, _⟩ := List.getElem?_eq_some_iff.1 hu
    rw [List.getElem?_append_left hf]
    exact hu
theorem wget_wdel (V : Wds) (n k : Nm) : wget (wdel V n) k = if k = n then none else wget V k := by
  induction V with
  | nil => simp [wdel, wget]
  | cons p V ih =>
    obtain ⟨a, l⟩ := p
    unfold wdel at ih ⊢
    simp only [List.filter_cons]
    by_cases ha : a = n
    · subst ha
      simp only [BEq.rfl, Bool.not_true, Bool.false_eq_true, if_false, ih, wget]
      by_cases hk : k = a
      · simp [hk]
      · rw [if_neg hk, if_neg hk, if_neg (fun h => hk h.symm)]
    · have : (a == n) = false := by simpa using ha
      simp only [this, Bool.not_false, if_true, wget, ih]
      by_cases hk : a = k
      · subst hk
        simp [ha]
      · simp [hk]
theorem tget_mem {k : List UInt8} {u : Value} : ∀ {tab : Tab}, tget tab k = some u → k ∈ tab.map (·.1)
  | [], h => by cases h
  | (a, v, b) :: r, h => by
    simp only [tget] at h
    split at h
    · rename_i e
      subst e
      exact List.Mem.head _
    · exact List.Mem.tail _ (tget_mem h)
theorem tget_tdel {tab : Tab} (n k : List UInt8) (h : (tab.map (·.1)).Nodup) : tget (tdel tab n) k = if k = n then none else tget tab k := by
  induction tab with
  | nil => simp [tdel, tget]
  | cons p tab ih =>
    obtain ⟨a, v, b⟩ := p
    simp only [List.map_cons, List.nodup_cons] at h
    have ih := ih h.2
    simp only [tdel]
    by_cases ha : a = n
    · subst ha
      rw [if_pos rfl]
      simp only [tget]
      by_cases hk : k = a
      · subst hk
        rw [if_pos rfl]
        cases hg : tget tab k with
        | none => rfl
        | some u =>
          exact absurd (tget_mem hg) h.1
      · rw [if_neg hk, if_neg (fun h => hk h.symm)]
    · rw [if_neg ha]
      simp only [tget, ih]
      by_cases hk : a = k
      · subst hk
        simp [ha]
      · simp [hk]
theorem tdel_keys (n : List UInt8) : ∀ tab : Tab, ((tdel tab n).map (·.1)).Sublist (tab.map (·.1))
  | [] => List.Sublist.refl _
  | (a, v, b) :: r => by
    simp only [tdel]
    split
    · exact List.sublist_cons_self _ _
    · exact (tdel_keys n r).cons_cons _
theorem tget_key {k : List UInt8} : ∀ {tab : Tab}, tget tab k = none → k ∉ tab.map (·.1)
  | [], _ => by simp
  | (a, v, b) :: r, h => by
    simp only [tget] at h
    split at h
    · cases h
    · rename_i ha
      simp only [List.map_cons, List.mem_cons, not_or]
      exact ⟨fun e => ha e.symm, tget_key h⟩
theorem WdAt.put {R : List Ent} {tab : Tab} {V : Wds} {k : Nm} {v : Value} {l : List Tk} (c : Nat) (h : WdAt R tab V) (hn : wget V k = none) (hv : RdE R v l) (hl : l.length ≤ 2048) : WdAt R (tput tab k v c) ((k, l) :: V) := by
  have h0 := h.2 k
  rw [hn] at h0
  dsimp only at h0
  rw [tput_app v c h0]
  refine ⟨?_, fun k2 => ?_⟩
  · rw [List.map_append, List.nodup_append]
    refine ⟨h.1, by simp, fun a ha b hb => ?_⟩
    simp only [List.map_cons, List.map_nil, List.mem_singleton] at hb
    rintro rfl
    rw [hb] at ha
    exact tget_key h0 ha
  · rw [tget_app]
    simp only [wget]
    by_cases hk : k = k2
    · subst hk
      rw [if_pos rfl, h0]
      simp only [if_true]
      exact ⟨v, rfl, hv, hl⟩
    · rw [if_neg hk]
      have h2 := h.2 k2
      cases hx : wget V k2 with
      | none =>
        rw [hx] at h2
        dsimp only at h2 ⊢
        rw [h2]
        simp [hk]
      | some l2 =>
        rw [hx] at h2
        dsimp only at h2 ⊢
        obtain ⟨u, h3, h4⟩ := h2
        exact ⟨u, by rw [h3], h4⟩
theorem WdAt.del {R : List Ent} {tab : Tab} {V : Wds} (k : Nm) (h : WdAt R tab V) : WdAt R (tdel tab k) (wdel V k) := by
  refine ⟨h.1.sublist (tdel_keys k tab), fun k2 => ?_⟩
  rw [wget_wdel, tget_tdel k k2 h.1]
  by_cases hk : k2 = k
  · rw [if_pos hk, if_pos hk]
  · rw [if_neg hk, if_neg hk]
    exact h.2 k2
theorem ptsC_app (P Q : List Pt) : ptsC (P ++ Q) = ptsC P ++ ptsC Q := List.flatMap_append ..
theorem ptsC_len (P : List Pt) : (ptsC P).length = P.length * 3 := flat_len ptC 3 (fun _ => rfl) P
theorem own_pop {Q : List Pt} {p : Pt} {o : Nat × Nat × Array Value} (h : ownOk (Q ++ [p]).length 3 (ptsC (Q ++ [p])) (some o)) : ownOk Q.length 3 (ptsC Q) (some o) := by
  obtain ⟨h1, h2, h3, h4, h5⟩ := h
  simp only [List.length_append, List.length_singleton] at h1 h4
  refine ⟨by omega, h2, h3, ?_, ptsC_len Q⟩
  have := congrArg (List.take (Q.length * 3)) h4
  rw [List.take_take, Nat.min_eq_left (by omega), ptsC_app, List.take_append_of_le_length (by rw [ptsC_len]; omega), ← ptsC_len Q, List.take_length] at this
  rw [← ptsC_len Q]
  exact this
theorem own_set {Q : List Pt} {p p' : Pt} {b cap : Nat} {cl : List Value} (h : ownOk (Q ++ [p]).length 3 (ptsC (Q ++ [p])) (some (b, cap, ⟨cl⟩))) : ownOk (Q ++ [p']).length 3 (ptsC (Q ++ [p'])) (some (b, cap, ⟨spl cl (Q.length * 3) (ptC p')⟩)) := by
  have hp := own_pop h
  obtain ⟨h1, h2, h3, h4, h5⟩ := h
  obtain ⟨_, _, _, g4, _⟩ := hp
  simp only [List.length_append, List.length_singleton] at h1
  dsimp only [List.size_toArray] at h3 g4
  have h3 : cl.length = cap * 3 := h3
  have hc : (ptC p').length = 3 := rfl
  refine ⟨by simpa using h1, h2, ?_, ?_, by rw [ptsC_len]⟩
  · show (spl cl (Q.length * 3) (ptC p')).length = cap * 3
    unfold spl
    simp only [List.length_append, List.length_take, List.length_drop, hc]
    omega
  · show (spl cl (Q.length * 3) (ptC p')).take ((Q ++ [p']).length * 3) = _
    unfold spl
    rw [g4, ptsC_app]
    have e : ptsC [p'] = ptC p' := by simp [ptsC]
    rw [e, List.take_append_of_le_length]
    · rw [List.take_of_length_le]
      simp only [List.length_append, ptsC_len, hc, List.length_singleton]
      omega
    · simp only [List.length_append, ptsC_len, hc, List.length_singleton]
      omega
structure DirQ where
  b : Bool
  P : List Pt
  o : Ow
  tab : Tab
  C : Nat
def DirR (R : List Ent) (q : DirQ) : Option (Wds × List Pt) → Prop
  | none => q.b = false
  | some (V', P') => q.b = true ∧ q.P = P' ∧ WdAt R q.tab V' ∧ ownOk P'.length 3 (ptsC P') q.o
end Go.Proofs.YthhfandandfeeaaDoor
