/- Walks: where Parse is wrong, of a text's tokens or of the first ones. No condition but the cell that the library's search reads. -/
import Derived.Test.YtbinaeemcidicaaZQN
import Derived.Test.YtbinaeemcidicaaZCut
namespace Go.PB
open Go.RowKit
section
variable {P : Program} {M : List Nat} {w0 : World} {n : Nat} {D : List Deferred} {L : List (Nat × Value)} {H : List Ent}
theorem ev_sliceG {t : TypeId} {x : Operand} {oty e : TypeId} {sz m c k : Nat} {p : Option Addr} {hi : Operand} {kk : IntKind} {j : Int} (ht : Sl P t e) (hs : Sz P e sz) (hx : evo L x = some (.slice p m c)) (hhi : evo L hi = some (.int kk j)) (hj : j = (k : Nat)) (hb : k ≤ c) (h0 : p = none → k = 0) :
    Ev P M w0 n D L H (.slice t x none (some hi) none) oty (.slice p k c) := by
  cases p with
  | some b => exact ev_sliceHi ht hs hx hhi hj hb
  | none =>
    have ht' : P.underlying t = some (.slice e) := ht
    have := h0 rfl
    subst this hj
    unfold Ev
    intro a w hf _ dst pos after g
    simp [execOp, hf.eval hx, hf.eval hhi, Instr.sliceAt, Instr.slice, Instr.sliceBounds, Instr.sliceBound, asIntOf, run_underlying ht', run_sizeOf hs]
end
end Go.PB
namespace Go.Proofs.Ytbinaeemcidicaa
open Go.PB Go.RowKit
attribute [local irreducible] Go.Calls
theorem RdX.room {R : List Ent} {p : Option Addr} {n c : Nat} {xs : List Value} (h : RdX R (.slice p n c) n xs) : (n ≤ c ∨ n = 0) ∧ (p = none → n = 0) := by
  rcases h with ⟨p', c', h1, h2⟩ | ⟨b', off', c', arr, et, fr, wr, h1, h2, h3, h4⟩
  · exact ⟨.inr h2, fun _ => h2⟩
  · cases h1
    exact ⟨.inl h3, fun e => by cases e⟩
end Go.Proofs.Ytbinaeemcidicaa
