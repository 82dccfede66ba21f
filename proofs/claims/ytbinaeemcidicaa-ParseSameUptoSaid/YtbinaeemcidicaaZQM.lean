/- Walks: Parse of a text's tokens; whether the layer does anything. No condition but the cell that the library's search reads. -/
import Derived.Test.YtbinaeemcidicaaZQL
namespace Go.PB
open Go.RowKit
section
variable {P : Program} {M : List Nat} {w0 : World} {n : Nat} {D : List Deferred} {L : List (Nat × Value)} {H : List Ent}
theorem ev_sliceHi {t : TypeId} {x : Operand} {oty e : TypeId} {sz m c k : Nat} {b : Addr} {hi : Operand} {kk : IntKind} {j : Int} (ht : Sl P t e) (hs : Sz P e sz) (hx : evo L x = some (.slice (some b) m c)) (hhi : evo L hi = some (.int kk j)) (hj : j = (k : Nat)) (hb : k ≤ c) :
    Ev P M w0 n D L H (.slice t x none (some hi) none) oty (.slice (some b) k c) := by
  have ht' : P.underlying t = some (.slice e) := ht
  subst hj
  unfold Ev
  intro a w hf _ dst pos after g
  have h1 : (0 : Int) ≤ ((k : Nat) : Int) := by omega
  have h2 : ((k : Nat) : Int) ≤ (c : Nat) := by omega
  simp [execOp, hf.eval hx, hf.eval hhi, Instr.sliceAt, Instr.slice, Instr.sliceBounds, Instr.sliceBound, asIntOf, run_underlying ht', h1, hb, run_sizeOf hs, Addr.add]
end
end Go.PB
namespace Go.Proofs.Ytbinaeemcidicaa
open Go.PB Go.RowKit
attribute [local irreducible] Go.Calls
theorem rawS_pos {n : Int} (h : 0 ≤ n) : 0 ≤ rawS n ∧ rawS n ≤ 2147483647 := ⟨by unfold rawS; omega, (rawS_range n).2⟩
theorem parseS_pos {l : List UInt8} (h : l.head? ≠ some 45) : 0 ≤ (parseS l).1 ∧ (parseS l).1 ≤ 2147483647 := by
  unfold parseS
  split
  · exact ⟨Int.le_refl _, by decide⟩
  · dsimp only
    split
    · exact ⟨Int.le_refl _, by decide⟩
    · split
      · exact ⟨Int.le_refl _, by decide⟩
      · first | exact rawS_pos (by omega) | (rw [if_neg h]; exact rawS_pos (by omega))
/-- a token's number -/
theorem tok_x (l : List UInt8) : 0 ≤ (tokS l).x ∧ (tokS l).x ≤ 2147483647 := by
  have z : (0 : Int) ≤ 0 ∧ (0 : Int) ≤ 2147483647 := by decide
  unfold tokS
  split
  · split <;> exact z
  · rename_i h0
    split
    · rename_i h1
      unfold numS
      split
      · exact z
      · split
        · exact z
        · split
          · refine parseS_pos fun e => ?_
            cases l with
            | nil => simp at e
            | cons c l =>
              have : c = 45 := by
                cases hn : numN (c :: l) with
                | zero => rw [hn] at e; simp at e
                | succ k => rw [hn] at e; simpa using e
              subst this
              revert h1
              simp [dgB]
              try decide
          · split
            · exact z
            · exact rawS_pos (by omega)
    · split <;> exact z
theorem ch_tok {s : List UInt8} : ∀ {l : List Tk} {i : Nat}, Ch s i l → ∀ t ∈ l, ∃ q, i ≤ q ∧ q < s.length ∧ t = tkAt s q
  | [], _, _, _, ht => by cases ht
  | t :: l, i, h, u, hu => by
    obtain ⟨_, q, h1, h2, _, _, h5, h6⟩ := h
    rcases List.mem_cons.1 hu with rfl | hu
    · exact ⟨q, h1, h2, h5⟩
    · obtain ⟨q', h7, h8, h9⟩ := ch_tok h6 u hu
      exact ⟨q', by omega, h8, h9⟩
theorem lex_tok {s : List UInt8} {T : List Tk} {p : Nat} (h : lexS s = (T, 0, p)) : ∀ t ∈ T.map tiOf, (-2147483648 < t.x ∧ t.x ≤ 2147483647) ∧ t.t.length ≤ 1000000 ∧ belowT t = false := fun t ht => by
  obtain ⟨h1, h2, h3⟩ := ch_of_lexS h
  obtain ⟨u, hu, rfl⟩ := List.mem_map.1 ht
  obtain ⟨q, _, hq, rfl⟩ := ch_tok h2 u hu
  have hx := tok_x (s.drop q)
  refine ⟨⟨?_, hx.2⟩, ?_, ?_⟩
  · show -2147483648 < (tokS (s.drop q)).x
    omega
  · show ((s.drop q).take _).length ≤ _
    rw [List.length_take, List.length_drop]
    omega
  · show decide (((q : Nat) : Int) < 0) = false
    exact decide_eq_false (by omega)
/-- Parse of a text's tokens, or of some of them -/
theorem par_lex {s : List UInt8} {T : List Tk} {p f : Nat} (h : lexS s = (T, 0, p)) {L l' : List Ti} (hL : ∀ t ∈ L, t ∈ T.map tiOf) (hn : L.length ≤ 2048) {M : List Nat} {w0 w : World} {A : List Ent} {lv : Value} {o : Option (List Pt)}
    (hst : St M w0 w A) (hx : MxE A) (hv : RdX A lv L.length (tisC L)) (e : pF f (.shad []) L = some (o, l')) : Calls Try.prog 14 #[lv] w (ParR L o l' M w0 A) :=
  parseT_ok hst hx hv (all_right h hL hn) (any_no fun t ht => by rw [(lex_tok h t (hL t ht)).2.2]; simp) (fun t ht => (lex_tok h t (hL t ht)).1) (fun t ht => (lex_tok h t (hL t ht)).2.1) e
theorem tisC_app (a b : List Ti) : tisC (a ++ b) = tisC a ++ tisC b := by unfold tisC; rw [List.flatMap_append]
theorem tisC_take {L : List Ti} {k j : Nat} {u : Value} (h : (tisC (L.take k))[j]? = some u) : (tisC L)[j]? = some u := by
  obtain ⟨hi, _⟩ := List.getElem?_eq_some_iff.1 h
  conv => lhs; rw [← List.take_append_drop k L, tisC_app, List.getElem?_append_left hi]
  exact h
theorem RdX.pre {R : List Ent} {b off n c k : Nat} {L : List Ti} (h : RdX R (.slice (some ⟨b, off, none⟩) n c) n (tisC L)) (hn : n = L.length) (hk : k ≤ n) : RdX R (.slice (some ⟨b, off, none⟩) k c) (L.take k).length (tisC (L.take k)) := by
  subst hn
  rw [List.length_take, Nat.min_eq_left hk]
  rcases h with ⟨p, c', h1, h2⟩ | ⟨b', off', c', arr, et, fr, wr, h1, h2, h3, h4⟩
  · exact .inl ⟨_, _, by rw [show k = 0 by omega], by omega⟩
  · cases h1
    exact .inr ⟨b, off, c, arr, et, fr, wr, rfl, h2, by omega, fun j u hu => h4 j u (tisC_take hu)⟩
theorem mx_ent {w : World} (h : Mx w) : ∃ arr et fr m, w.heap[0]? = some (.cells arr et fr) ∧ arr[0]? = some (.int .i64 m) := by
  obtain ⟨m, h⟩ := h
  unfold World.cell? at h
  split at h
  · rename_i c et fr hc
    exact ⟨c, et, fr, m, hc, by simpa using h⟩
  · cases h
/-- the text that shows whether the layer does anything: its tokens, its tree, its nodes -/
abbrev wkS : List UInt8 := [118, 111, 105, 100, 32, 109, 97, 105, 110, 40, 41, 123, 105, 110, 116, 32, 97, 61, 49, 45, 50, 45, 51, 59, 125]
def wkT : List Tk := (lexS wkS).1
def wkL : List Ti := wkT.map tiOf
def wkP : List Pt := match pF 60 (.shad []) wkL with
  | some (some ps, _) => ps
  | _ => []
def wkN : List Nd := (putP (.mk 1 [] [] 0 0 wkP) 0 0 none).1
theorem wk_lex : lexS wkS = (wkT, 0, 0) := by kernel_rfl
theorem wk_len : wkL.length = 15 := by kernel_rfl
theorem wk_all : pF 60 (.shad []) wkL = some (some wkP, []) := by kernel_rfl
theorem wk_nd : putP (.mk 1 [] [] 0 0 wkP) 0 0 none = (wkN, none) := by kernel_rfl
theorem wk_n : wkN.length = 10 ∧ (wkN.getD 3 ⟨0, [], [], 0, [], 0⟩).kd = 2 := by
  refine ⟨by kernel_rfl, by kernel_rfl⟩
theorem wk_bad : pF 60 (.shad []) (wkL.take 3) = some (none, []) := by kernel_rfl
end Go.Proofs.Ytbinaeemcidicaa
