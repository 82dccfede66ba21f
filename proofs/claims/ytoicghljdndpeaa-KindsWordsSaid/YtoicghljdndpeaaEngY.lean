/- Rules of the walk for bools and appends. No condition. -/
import Derived.Test.YtoicghljdndpeaaEngX
import Derived.Laws.AppendOwn
/-! bools compared; appends -/
attribute [local semireducible] Go.PB.Ev Go.PB.Wl Go.PB.W Go.PB.Wq
namespace Go.PB
open Go.RowKit
section
variable {P : Program} {ops : Array Oper} {Q : Exit → Act → World → Prop} {M : List Nat} {w0 : World} {n : Nat} {D : List Deferred} {L L' : List (Nat × Value)} {H H' : List Ent} {rest rest' : List Oper}
  {d : Tmp} {dst : Option Tmp} {oty t t' : TypeId} {pos : String} {after : Array Edge} {g : Option (Nat × Bool)} {x y z : Operand}
theorem run_bin_bool {P : Program} {w : World} {op : BinOp} {t t' : TypeId} {a : Act} {p q : Bool} {v : Value} {dst : Option Tmp} {pos : String} {after : Array Edge} {g : Option (Nat × Bool)}
    (hx : a.eval x = .bool p) (hy : a.eval y = .bool q) (hr : (binOp op t (.bool p) (.bool q)).run P w = .ok v w) :
    (execOp a.eval ⟨dst, .binOp op t x y t', oty, pos, after, g⟩).run P w = .ok (.value v) w := by
  have hg : (eqGuard op t x y (.bool p) (.bool q)).run P w = .ok () w := by
    unfold eqGuard
    cases op <;> simp
  simp [execOp, hx, hy, hg, hr]
theorem ev_eqb {p q : Bool} (ht : P.underlying t = some .bool) (hx : evo L x = some (.bool p)) (hy : evo L y = some (.bool q)) : Ev P M w0 n D L H (.binOp .eql t x y t') oty (.bool (decide (p = q))) :=
  fun a w hf _ _ _ _ _ => run_bin_bool (hf.eval hx) (hf.eval hy) (by rw [run_eql_bool (h := ht)]; cases p <;> cases q <;> rfl)
theorem ev_neb {p q : Bool} (ht : P.underlying t = some .bool) (hx : evo L x = some (.bool p)) (hy : evo L y = some (.bool q)) : Ev P M w0 n D L H (.binOp .neq t x y t') oty (.bool (decide (¬p = q))) :=
  fun a w hf _ _ _ _ _ => run_bin_bool (hf.eval hx) (hf.eval hy) (by rw [run_neq_bool (h := ht)]; cases p <;> cases q <;> rfl)
theorem ev_eqb_self {p : Bool} (ht : P.underlying t = some .bool) (hx : evo L x = some (.bool p)) (hy : evo L y = some (.bool p)) : Ev P M w0 n D L H (.binOp .eql t x y t') oty (.bool true) := (ev_eqb ht hx hy).to (by simp)
theorem ev_neb_self {p : Bool} (ht : P.underlying t = some .bool) (hx : evo L x = some (.bool p)) (hy : evo L y = some (.bool p)) : Ev P M w0 n D L H (.binOp .neq t x y t') oty (.bool false) := (ev_neb ht hx hy).to (by simp)

/-- nothing is appended -/
theorem ev_append_none {e : TypeId} {sz m c c' : Nat} {p q : Option Addr} (ht : Sl P t e) (hs : Sz P e sz) (hx : evo L x = some (.slice p m c)) (hy : evo L y = some (.slice q 0 c')) (hc : m ≤ c) :
    Ev P M w0 n D L H (.call { callee := .builtin .append, args := #[x, y], argTypes := #[t, t] }) oty (.slice p m c) := fun a w hf hst dst pos after g => by
  have ht' : P.underlying t = some (.slice e) := ht
  have h1 : (Builtin.firstCells sz 0 (.slice q 0 c')).run P w = .ok #[] w := by
    cases q with
    | none => simp [Builtin.firstCells]
    | some b =>
      have h2 := run_loadCells_list (P := P) w b [] (fun j v h => by simp at h)
      simp only [List.length_nil] at h2
      simp [Builtin.firstCells, h2]
  cases p with
  | none => simp [execOp, resolve, invoke, builtin, hf.eval hx, hf.eval hy, Builtin.append_, run_underlying ht', run_sizeOf hs, Builtin.lenOf, hc, h1]
  | some b => simp [execOp, resolve, invoke, builtin, hf.eval hx, hf.eval hy, Builtin.append_, run_underlying ht', run_sizeOf hs, Builtin.lenOf, hc, h1, storeCells]

/-- what is appended to a slice without room -/
theorem wl_append_grow {e et : TypeId} {sz bytes m k c c' gb off ob : Nat} {olds news : List Value} {arr oarr : Array Value} {fr ofr : Nat × Nat} {wr owr : Bool} {z : List Value} {oet : TypeId} (hg : gdv ops L g = some true) (hd : Nat.blt d n = true)
    (ht : Sl P t e) (hs : Sz P e sz) (hby : By P e bytes) (hz : Zero P e z)
    (hx : evo L x = some (.slice (some ⟨ob, 0, none⟩) m c)) (hy : evo L y = some (.slice (some ⟨gb, off, none⟩) k c'))
    (hmo : (⟨ob, owr, .cells oarr oet ofr⟩ : Ent) ∈ H) (hlo : olds.length = m * sz) (hco : ∀ (j : Nat) v, olds[j]? = some v → oarr[j]? = some v)
    (hm : (⟨gb, wr, .cells arr et fr⟩ : Ent) ∈ H) (hl : news.length = k * sz) (hc : ∀ (j : Nat) v, news[j]? = some v → arr[off + j]? = some v)
    (hgr : c < m + k) (h63 : m + k ≤ 9223372036854775807) {N : Nat} (hN : m + k = N) (h48 : Builtin.nextslicecap (m + k) c * bytes ≤ 281474976710656)
    (h : ∀ b cap rest, N ≤ cap → Wl P ops Q M w0 n D rest' ((d, .slice (some ⟨b, 0, none⟩) N cap) :: L) (⟨b, true, .cells (olds.toArray ++ news.toArray ++ rest) e (0, 0)⟩ :: H)) :
    Wl P ops Q M w0 n D (⟨some d, .call { callee := .builtin .append, args := #[x, y], argTypes := #[t, t] }, oty, pos, after, g⟩ :: rest') L H := by
  intro a w hf hst
  unfold wpList
  rw [if_pos (by rw [wanted_of hf hg])]
  refine .inl ?_
  unfold Oper.wp
  have ht' : P.underlying t = some (.slice e) := ht
  obtain ⟨i, hi, hsz⟩ := Option.map_eq_some_iff.1 hs
  obtain ⟨i2, hi2, hbz⟩ := Option.map_eq_some_iff.1 hby
  obtain ⟨i3, zv, hi3, hzv, _⟩ := hz
  rw [hi] at hi2 hi3
  cases hi2
  cases hi3
  have hr := run_append_grow (P := P) (w := w) t oty e i zv ht' hi hzv ⟨ob, 0, none⟩ m c olds (by rw [hlo, hsz]) (fun j v hj => by rw [add_lit, Nat.zero_add, cell_cells (hst.get hmo)]; exact hco j v hj)
    ⟨gb, off, none⟩ k c' news (by rw [hl, hsz]) (fun j v hj => by rw [add_lit, cell_cells (hst.get hm)]; exact hc j v hj) hgr (by omega) (by rw [hbz]; exact h48)
  have hex : (execOp a.eval ⟨some d, .call { callee := .builtin .append, args := #[x, y], argTypes := #[t, t] }, oty, pos, after, g⟩).run P w =
      ((Builtin.append_ #[t, t] oty #[.slice (some ⟨ob, 0, none⟩) m c, .slice (some ⟨gb, off, none⟩) k c']).run P w).andThen fun v w' => .ok (.value v) w' := by
    simp [execOp, resolve, invoke, builtin, hf.eval hx, hf.eval hy]
  rw [hex, hr]
  subst hN
  exact h _ _ _ (grownCap_ge w (m + k) c e) _ _ (hf.put (dst := some d) (by simpa using hd)) (hst.drew.alloc _)
end
end Go.PB
