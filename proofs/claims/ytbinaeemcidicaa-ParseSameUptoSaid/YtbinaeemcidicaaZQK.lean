/- Walks: the parser's functions read the grammar, all of them. No condition. -/
import Derived.Test.YtbinaeemcidicaaZPF
import Derived.Test.YtbinaeemcidicaaZPQ
import Derived.Test.YtbinaeemcidicaaZPR
import Derived.Test.YtbinaeemcidicaaZPS
import Derived.Test.YtbinaeemcidicaaZPU
import Derived.Test.YtbinaeemcidicaaZPW
import Derived.Test.YtbinaeemcidicaaZQD
import Derived.Test.YtbinaeemcidicaaZQE
namespace Go.Proofs.Ytbinaeemcidicaa
open Go.PB Go.RowKit
attribute [local irreducible] Go.Calls
/-- each function reads its part of the grammar -/
structure AllC (f : Nat) : Prop where
  expr : NodeC f .expr 67 []
  cond : NodeC f .cond 80 []
  bin : ∀ k : Nat, k ≤ 5 → NodeC f (.bin k) 87 [.int .i64 (k : Nat)]
  un : NodeC f .un 92 []
  fst : NodeC f .fst 96 []
  stmt : NodeC f .stmt 79 []
  blk : NodeC f .blk 65 []
  loop : NodeC f .loop 86 []
  bnd : NodeC f .bnd 90 []
  decl : ∀ (t0 t9 : Ti) (tx : List UInt8), NodeC f (.decl t0.a t9.t tx) 52 [tiV t0, tiV t9, st tx]
  func : ∀ t0 : Ti, NodeC f (.func t0) 51 [tiV t0]
theorem node_zero {n : Nt} {F : FuncId} {vs : List Value} : NodeC 0 n F vs := fun _ _ _ _ _ e => by
  rw [pF] at e
  cases e
theorem all_nodes : ∀ f : Nat, AllC f
  | 0 => ⟨node_zero, node_zero, fun _ _ => node_zero, node_zero, node_zero, node_zero, node_zero, node_zero, node_zero, fun _ _ _ => node_zero, fun _ => node_zero⟩
  | f + 1 => by
    have ih := all_nodes f
    refine ⟨expr_step ih.cond ih.expr, cond_step (ih.bin 0 (Nat.zero_le _)) ih.expr ih.cond, fun k hk => ?_, unary_step ih.un ih.fst, first_step ih.expr, stmt_step ih.blk ih.loop ih.expr ih.stmt ih.decl, block_step ih.stmt, loop_step ih.bnd ih.stmt, bound_step f, decl_step ih.expr, func_step ih.blk⟩
    by_cases h : k < 5
    · exact binary_low h (ih.bin (k + 1) (by omega))
    · exact binary_top (by omega) ih.un
/-- the whole of a shader -/
theorem shader_ok {f : Nat} {M : List Nat} {w0 w : World} {H : List Ent} {K : List Ent → List Ent} {TR : List Ent} {r a : Nat} {lv : Value} {L l l' : List Ti} {q : Option (List Pt)}
    (hst : St M w0 w H) (hu : UpdT H r (rdP lv a) (rdP lv (L.length - l'.length)) K) (hT : TokE TR r lv L) (hm : ∀ p ∈ TR, p ∈ H) (hl : At L a l) (e : pF f (.shad []) l = some (q, l')) :
    Calls Try.prog 29 #[ptr r] w (NodeR (q.map fun ps => [.mk 1 [] [] 0 0 ps]) M w0 K) := shad_ok (all_nodes f).decl (all_nodes f).func hst hu hT hm hl e
end Go.Proofs.Ytbinaeemcidicaa
