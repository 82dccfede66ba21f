/- Walks: the parser's functions read the grammar, all of them. No condition. -/
import Derived.Test.YtbinaeemcidicaaGreatDoorZPF
import Derived.Test.YtbinaeemcidicaaGreatDoorZPR
import Derived.Test.YtbinaeemcidicaaGreatDoorZPS
import Derived.Test.YtbinaeemcidicaaGreatDoorZPU
import Derived.Test.YtbinaeemcidicaaGreatDoorZPW
import Derived.Test.YtbinaeemcidicaaGreatDoorZQD
import Derived.Test.YtbinaeemcidicaaGreatDoorZQE
import Derived.Test.YtbinaeemcidicaaGreatDoorZED
set_option maxRecDepth 100000
set_option maxHeartbeats 16000000
namespace Go.Proofs.YtbinaeemcidicaaGreatDoor
open Go.PB Go.RowKit
attribute [local irreducible] Go.Calls
structure AllC (f : Nat) : Prop where
 expr : NodeC f .expr 99 []
 cond : NodeC f .cond 136 []
 bin : ∀ k : Nat, k ≤ 5 → NodeC f (.bin k) 164 [.int .i64 (k : Nat)]
 un : NodeC f .un 182 []
 fst : NodeC f .fst 197 []
 stmt : NodeC f .stmt 135 []
 blk : NodeC f .blk 97 []
 loop : NodeC f .loop 163 []
 bnd : NodeC f .bnd 181 []
 decl : ∀ (t0 t9 : Ti) (tx : List UInt8), NodeC f (.decl t0.a t9.t tx) 62 [tiV t0, tiV t9, st tx]
 func : ∀ t0 : Ti, NodeC f (.func t0) 61 [tiV t0]
theorem node_zero {n : Nt} {F : FuncId} {vs : List Value} : NodeC 0 n F vs := fun _ _ _ _ _ e => by
 rw [pF] at e
 cases e
theorem all_nodes : ∀ f : Nat, AllC f
 | 0 => ⟨node_zero, node_zero, fun _ _ => node_zero, node_zero, node_zero, node_zero, node_zero, node_zero, node_zero, fun _ _ _ => node_zero, fun _ => node_zero⟩
 | f + 1 => by
  have ih := all_nodes f
  refine ⟨expr_step ih.cond ih.expr, cond_step (ih.bin 0 (Nat.zero_le _)) ih.expr ih.cond, fun k hk => ?_, unary_step ih.un ih.fst, first_step ih.expr, stmt_step ih.blk ih.loop ih.expr ih.stmt ih.decl, block_step ih.stmt, loop_step ih.bnd ih.stmt, bound_step f, decl_step ih.expr, func_step ih.blk⟩
  by_cases h : k < 5
  ·exact binary_low h (ih.bin (k + 1) Zf7)
  ·exact binary_top Zf7 ih.un
theorem shader_ok {f : Nat} {M : List Nat} {w0 w : World} {H : List Ent} {K : List Ent → List Ent} {TR : List Ent} {r a : Nat} {lv : Value} {L l l' : List Ti} {q : Option (List Pt)}
  (hst : St M w0 w H) (hu : UpdT H r (rdP lv a) (rdP lv (L.length - l'.length)) K) (hT : TokE TR r lv L) (hm : ∀ p ∈ TR, p ∈ H) (hl : At L a l) (e : pF f (.shad []) l = some (q, l')) :
  Calls Tryz.prog 30 #[ptr r] w (NodeR (q.map fun ps => [.mk 1 [] [] 0 0 ps]) M w0 K) := shad_ok (all_nodes f).decl (all_nodes f).func hst hu hT hm hl e
end Go.Proofs.YtbinaeemcidicaaGreatDoor
namespace Go.PB
open Go.RowKit
theorem wp_of_W {P : Program} {Z : Exit → Act → World → Prop} {M : List Nat} {w0 w : World} {n : Nat} {L : List (Nat × Value)} {H : List Ent} {c : Code} {a : Act} (hf : Fz n L [] a) (hs : St M w0 w H) (h : W P Z M w0 n [] [.inl c] L H) : c.wp P Z a w := by
 unfold W at h
 exact h a w hf hs
end Go.PB
namespace Go.Proofs.YtbinaeemcidicaaGreatDoor
open Go.PB Go.RowKit
attribute [local irreducible] Go.Calls
theorem catch_idle (b2 b3 b5 b1 : Nat) (w : World) :
  CallsD Tryz.prog 28 #[ptr b2, ptr b3, ptr b5, ptr b1] .returning w fun e u' w' => e = .returned (.tuple #[]) ∧ u' = .returning ∧ w' = w := by
 refine callsD_of_wpS Tryz.func28 rfl fun c₀ cs hu => ?_
 apply wpS_seq
 apply wpS_region
 simp [wpOpsS, go_sem, recoverD, hu, Tryz.ntmps28, Exit.thenS]
 apply wpS_seq
 apply wpS_region
 have hnil : ∀ w : World, (binOp BinOp.neq 20 .nilIface .nilIface).run Tryz.prog w = .ok (.bool false) w := fun _ => by kernel_rfl
 simp [wpOpsS, go_sem, Exit.thenS, hnil]
 refine wpS_cond (t := false) (by simp [Act.eval]) ?_
 simp only [Bool.false_eq_true, if_false]
 refine wpS_of_wp (wp_skip ?_)
 cases c₀
 simp_all [bodyPostS, results, Tryz.results28]
def endP (L : List Ti) (a : Nat) : Int := if a < L.length then (L.getD a ti0).a else if 0 < L.length then IntKind.i64.wrap ((L.getD (L.length - 1) ti0).a + ((L.getD (L.length - 1) ti0).t.length : Nat)) else 0
theorem ne_nil {M : List Nat} {w0 : World} {n i : Nat} {D : List Deferred} {L : List (Nat × Value)} {H : List Ent} {oty t : TypeId} (hx : evo L (.tmp i) = some (.iface 141 (.agg #[]))) : Ev Tryz.prog M w0 n D L H (.binOp .neq 20 (.tmp i) (.const .nilIface) t) oty (.bool true) := by
 have hnil : ∀ w : World, (binOp BinOp.neq 20 (.iface 141 (.agg #[])) .nilIface).run Tryz.prog w = .ok (.bool true) w := fun _ => by kernel_rfl
 have hg : ∀ w : World, (eqGuard BinOp.neq 20 (.tmp i) (.const .nilIface) (.iface 141 (.agg #[])) .nilIface).run Tryz.prog w = .ok () w := fun _ => by kernel_rfl
 unfold Ev
 intro a w hf _ dst pos after g
 have h1 := hf.eval hx
 have h2 : a.eval (.const .nilIface) = .nilIface := rfl
 simp only [execOp, h1, h2]
 simp [hnil, hg]
theorem catch_some {b2 b3 b5 b1 r a : Nat} {M : List Nat} {w0 w : World} {lv : Value} {L : List Ti} {A : List Ent}
  (hst : St M w0 w (⟨b2, true, row [.slice none 0 0] 24⟩ :: ⟨b3, true, row [.int .i64 0, .int .i64 0] 38⟩ :: ⟨b5, true, row [ptr r] 73⟩ :: ⟨b1, true, row [lv] 36⟩ :: ⟨r, true, rdP lv a⟩ :: A))
  (hv : RdX A lv L.length (tisC L)) (ha : a ≤ L.length) (hlim : L.length ≤ 1000000) :
  CallsD Tryz.prog 28 #[ptr b2, ptr b3, ptr b5, ptr b1] (.panicking wrongC) w fun e u' w' => (∃ v, e = .returned v) ∧ settle u' = .returning ∧
   St M w0 w' (⟨b2, true, row [.slice none 0 0] 24⟩ :: ⟨b3, true, row [.int .i64 220, .int .i64 (endP L a)] 38⟩ :: ⟨b5, true, row [ptr r] 73⟩ :: ⟨b1, true, row [lv] 36⟩ :: ⟨r, true, rdP lv a⟩ :: A) := by
 obtain ⟨q, c, rfl⟩ := hv.len
 refine callsD_of_wpS Tryz.func28 rfl fun c₀ cs hu => ?_
 apply wpS_seq
 apply wpS_region
 simp [wpOpsS, go_sem, recoverD, hu, Tryz.ntmps28, Exit.thenS]
 refine wpS_of_wp (wp_of_W (n := 46) (L := [(4, .iface 141 (.agg #[])), (0, ptr b2), (1, ptr b3), (2, ptr b5), (3, ptr b1)]) (M := M) (w0 := w0) ⟨by simp, rfl, ?_⟩ hst ?_)
 ·intro i v hi
  match i, hi with
  | 0, hi => cases hi; exact Array.getElem?_append_left (Nat.lt_of_succ_le (Nat.le_of_ble_eq_true rfl))
  | 1, hi => cases hi; exact Array.getElem?_append_left (Nat.lt_of_succ_le (Nat.le_of_ble_eq_true rfl))
  | 2, hi => cases hi; exact Array.getElem?_append_left (Nat.lt_of_succ_le (Nat.le_of_ble_eq_true rfl))
  | 3, hi => cases hi; exact Array.getElem?_append_left (Nat.lt_of_succ_le (Nat.le_of_ble_eq_true rfl))
  | 4, hi => cases hi; exact (Array.getElem?_append_right (Nat.le_of_ble_eq_true rfl)).trans Zgh
  | i + 5, hi => cases (show none = some v from hi)
 by_cases hlt : a < L.length
 ·obtain ⟨b, off, c1, arr, et, fr, wr, he, hmm, hcc, hgt⟩ := hv.pos Zf7
  cases he
  have g0 : ∀ (f : Nat) u, (tiC (L.getD a ti0))[f]? = some u → ∀ o, o = off + (a * 5 + f) → arr[o]? = some u := fun f u h => hgt _ _ (tisC_get hlt h)
  have he : endP L a = (L.getD a ti0).a := by unfold endP; rw [if_pos hlt]
  obtain ⟨t, ht⟩ : ∃ t, L.getD a ti0 = t := ⟨_, rfl⟩
  rw [ht] at g0 he
  rw [he]
  repeat' (first | (apply gL; first | (apply Wl.ev rfl rfl; exact Zes) | (refine Zf8 ?_) | apply Wl.nil | (refine Zf9 ?_; try simp only [List.set])) | (apply gQ; first | (apply Wq.ev rfl rfl; exact Zes) | ((show Wq _ _ (Qt _ _ _ _) _ _ _ _ [] _ _); apply Wq.tail) | apply Wq.nil) | (apply lW; first | apply W.seq | ((show W _ _ _ _ _ _ (.inl (.region 4 _ true) :: _) _ _); refine W.regionT 9 mixed Zj rfl rfl ?_) | (refine Zgf ?_) | apply W.region | (refine Zbk ?_) | (refine Zz ?_ ?_ <;> (intro h; try exact Za))))
  all_goals first | (refine W.endZ ?_; intro a1 w1 hf1 hs1; exact ⟨hf1.defers, _, rfl, .tuple #[], by simp [results, Tryz.results28], ⟨_, rfl⟩, rfl, hs1⟩) | contradiction | exact Zy
 ·by_cases h0 : 0 < L.length
  ·obtain ⟨b, off, c1, arr, et, fr, wr, he, hmm, hcc, hgt⟩ := hv.pos Zf7
   cases he
   have g0 : ∀ (f : Nat) u, (tiC (L.getD (L.length - 1) ti0))[f]? = some u → ∀ o, o = off + ((L.length - 1) * 5 + f) → arr[o]? = some u := fun f u h => hgt _ _ (tisC_get Zf7 h)
   have he : endP L a = IntKind.i64.wrap ((L.getD (L.length - 1) ti0).a + ((L.getD (L.length - 1) ti0).t.length : Nat)) := by unfold endP; rw [if_neg hlt, if_pos h0]
   obtain ⟨t, ht⟩ : ∃ t, L.getD (L.length - 1) ti0 = t := ⟨_, rfl⟩
   rw [ht] at g0 he
   rw [he]
   repeat' (first | (apply gL; first | (apply Wl.ev rfl rfl; exact Zdj) | (refine Zf8 ?_) | apply Wl.nil | (refine Zf9 ?_; try simp only [List.set])) | (apply gQ; first | (apply Wq.ev rfl rfl; exact Zdj) | ((show Wq _ _ (Qt _ _ _ _) _ _ _ _ [] _ _); apply Wq.tail) | apply Wq.nil) | (apply lW; first | apply W.seq | ((show W _ _ _ _ _ _ (.inl (.region 7 _ true) :: _) _ _); refine W.regionT 15 mixed Zj rfl rfl ?_) | (refine Zgf ?_) | apply W.region | (refine Zbk ?_) | (refine Zz ?_ ?_ <;> (intro h; try exact Za))))
   all_goals first | (refine W.endZ ?_; intro a1 w1 hf1 hs1; exact ⟨hf1.defers, _, rfl, .tuple #[], by simp [results, Tryz.results28], ⟨_, rfl⟩, rfl, hs1⟩) | contradiction | exact Zy
  ·have he : endP L a = 0 := by unfold endP; rw [if_neg hlt, if_neg h0]
   rw [he]
   repeat' (first | (apply gL; first | (apply Wl.ev rfl rfl; (focus (first | exact Zev | exact ne_nil rfl))) | (refine Zf8 ?_) | apply Wl.nil) | (apply gQ; first | (apply Wq.ev rfl rfl; (focus (first | exact Zev | exact ne_nil rfl))) | apply Wq.nil) | (apply lW; first | apply W.seq | (refine Zgf ?_) | apply W.region | apply W.skip | (refine Zbk ?_) | (refine Zz ?_ ?_ <;> (intro h; try exact Za))))
   all_goals first | (refine W.endZ ?_; intro a1 w1 hf1 hs1; exact ⟨hf1.defers, _, rfl, .tuple #[], by simp [results, Tryz.results28], ⟨_, rfl⟩, rfl, hs1⟩) | contradiction | exact Zy
end Go.Proofs.YtbinaeemcidicaaGreatDoor
