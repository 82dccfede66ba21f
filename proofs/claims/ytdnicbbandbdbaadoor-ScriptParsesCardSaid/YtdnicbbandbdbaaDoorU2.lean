/- Walks: a command's line, by the program. No condition but the listed tables and cells that the library reads. -/
import Derived.Test.YtdnicbbandbdbaaDoorSN
namespace Go.PB
open Go.RowKit
theorem Wd.chk {P : Program} {ops : Array Oper} {Q : Exit → Act → World → Prop} {H0 : List Ent} {M : List Nat} {w0 : World} {n : Nat} {D : List Deferred} {fuel : Nat} {listed : Array Bool} {i : Nat} {L : List (Nat × Value)} {H : List Ent} {dst : Option Tmp} {op : Op} {oty : TypeId} {pos : String} {after : Array Edge} {g : Option (Nat × Bool)}
    (_ : ops[i]? = some ⟨dst, op, oty, pos, after, g⟩) (_ : gdv ops L g = some true) (h : False) : Wd P ops Q H0 M w0 n D fuel listed i L H := h.elim
section
variable {P : Program} {ops : Array Oper} {Q : Exit → Act → World → Prop} {M : List Nat} {w0 w w' : World} {n : Nat} {D : List Deferred} {L : List (Nat × Value)} {H : List Ent} {rest : List Oper}
  {d : Tmp} {oty t t' : TypeId} {pos : String} {after : Array Edge} {g : Option (Nat × Bool)} {x y : Operand}
/-- a call by its contract: what it has made stands where it is put -/
theorem wl_callPm {f : FuncId} {xs : List Operand} {vs : List Value} {ats : Array TypeId} {X : Type} {val : X → Value} {φ : X → Prop} {news : X → List (Nat × Obj)} {H' : X → List Ent} (hg : gdv ops L g = some true) (hd : Nat.blt d n = true)
    (hh : Has P f) (hv : evos L xs = some vs) (hc : ∀ w, St M w0 w H → Calls P f vs.toArray w (Gives val φ w (fun _ => []) news)) (hp : ∀ x, List.Perm (ents (news x) ++ H) (H' x)) (h : ∀ x, φ x → Wl P ops Q M w0 n D rest ((d, val x) :: L) (H' x)) :
    Wl P ops Q M w0 n D (⟨some d, .call { callee := .value (.func f), args := xs.toArray, argTypes := ats }, oty, pos, after, g⟩ :: rest) L H :=
  wl_callX hg hd hh hv hc fun x hx => by
    have := h x hx
    unfold Wl at this ⊢
    exact fun a w hf hs => this a w hf (hs.perm (hp x))
end
section
variable {P : Program} {fn : Func} {R : Ending → World → Prop} {M : List Nat} {w0 : World} {n : Nat} {L : List (Nat × Value)} {H : List Ent} {k : List Kt} {t t' : TypeId} {p q : Tmp} {b b' : Nat} {l l' : List Value} {e e' : TypeId} {wr wr' : Bool} {v : Value}
theorem W.retcc (hr : fn.results = #[.cell p t, .cell q t']) (hx : look L p = some (.pointer (some ⟨b, 0, none⟩))) (hu : Ag P t true) (hm : (⟨b, wr, row l e⟩ : Ent) ∈ H) (hs : Sz P t l.length)
    (hx' : look L q = some (.pointer (some ⟨b', 0, none⟩))) (hu' : Ag P t' true) (hm' : (⟨b', wr', row l' e'⟩ : Ent) ∈ H) (hs' : Sz P t' l'.length)
    (h : ∀ w, St M w0 w H → R (.returned (.tuple #[.agg l.toArray, .agg l'.toArray])) w) : W P (bodyPost P fn R) M w0 n [] (.inl .ret :: k) L H :=
  W.ret fun a w hf hst => bodyPost_ret (v := .tuple #[.agg l.toArray, .agg l'.toArray]) (by simp [results, hr, hf.has p _ hx, hf.has q _ hx', asAddr, run_loadWhole hu hs (hst.get hm), run_loadWhole hu' hs' (hst.get hm')]) hf.defers (h w hst)
end
end Go.PB
namespace Go.Proofs.YtdnicbbandbdbaaDoor
open Go.PB Go.RowKit
attribute [local irreducible] Go.Calls
theorem idxW_at {w : List UInt8} : ∀ {l : List (List UInt8)} {j : Nat}, j < l.length → (∀ a ∈ l.take j, ¬a = w) → l.getD j [] = w → idxW w l = j
  | [], j, h, _, _ => by simp at h
  | a :: l, 0, _, _, h => by
    rw [idxW, if_pos (by simpa using h)]
    rfl
  | a :: l, j + 1, hj, h1, h2 => by
    have := idxW_at (l := l) (j := j) (by simpa using hj) (fun b hb => h1 b (by rw [List.take_succ_cons]; exact List.Mem.tail _ hb)) (by simpa using h2)
    rw [idxW, if_neg (h1 a (by rw [List.take_succ_cons]; exact List.Mem.head _)), this, if_neg (by omega)]
    omega
theorem idxW_none {w : List UInt8} : ∀ {l : List (List UInt8)}, (∀ a ∈ l, ¬a = w) → idxW w l = -1
  | [], _ => rfl
  | a :: l, h => by rw [idxW, if_neg (h a (List.Mem.head _)), idxW_none fun b hb => h b (List.Mem.tail _ hb), if_pos (by omega)]
set_option maxRecDepth 100000 in
theorem indexS_ok {M : List Nat} {w0 w : World} {R : List Ent} {v : Value} {l : List (List UInt8)} {s : List UInt8} (hst : St M w0 w R) (hv : RdX R v l.length (strV l)) (hl : l.length ≤ 4611686018427387904) :
    Calls Tryd.prog 55 #[v, st s] w (Give (.int .i64 (idxW s l)) w) := by
  have hv' := hv.ro
  obtain ⟨q, c, rfl⟩ := hv.len
  refine give_of_W (vs := [.slice q l.length c, st s]) Tryd.func55 rfl Tryd.ntmps55 (Nat.le_of_ble_eq_true rfl) hst.reads ?_
  simp only [argL]
  repeat' (first | (apply gL; first | (apply Wl.ev rfl rfl; (focus (first | exact ev_move rfl | exact ev_assign rfl | (apply gCal; first | exact ev_len_slice (slT rfl) rfl)))) | apply Wl.nil) | (apply gQ; first | (apply Wq.ev rfl rfl; (focus (first | exact ev_move rfl | exact ev_assign rfl | (apply gCal; first | exact ev_len_slice (slT rfl) rfl))))) | ((show W _ _ _ _ _ _ _ _ _); first | apply W.seq | (refine W.loop (X := Nat) (fun j => [(0, .slice q l.length c), (1, st s), (7, .int .i64 (l.length : Nat)), (8, .int .i64 (j : Nat))]) (fun _ => ro R) (fun j => j ≤ l.length ∧ ∀ a ∈ l.take j, ¬a = s) (fun j => l.length - j) 0 ⟨Nat.zero_le _, by simp⟩ (by repeat (first | exact SubL.nil | refine SubL.cons rfl ?_)) (List.Sublist.refl _) ?_) | apply W.region | apply W.block))
  rintro j ⟨hj, hall⟩
  by_cases hlt : j < l.length
  · obtain ⟨b, off, c1, arr, et, fr, wr, he, hm, hcc, hgt⟩ := hv'.pos (by omega)
    cases he
    have g0 := hgt j _ (strV_get hlt)
    obtain ⟨y, hy⟩ : ∃ y, l.getD j [] = y := ⟨_, rfl⟩
    rw [hy] at g0
    repeat' (first | (apply gL; first | (apply Wl.ev rfl rfl; (focus (first | exact ev_move rfl | (apply gLoa; first | exact ev_loadAt (agT rfl) rfl hm (g0 _ (by omega))) | exact ev_assign rfl | (apply gBin; first | exact ev_eqs rfl rfl | exact ev_lti rfl rfl | exact ev_add64 rfl rfl (by omega)) | (apply gIxA; first | exact ev_indexAddr (slT rfl) (szT rfl) rfl rfl (by omega))))) | apply Wl.nil) | (apply gQ; first | (apply Wq.ev rfl rfl; (focus (first | exact ev_move rfl | (apply gLoa; first | exact ev_loadAt (agT rfl) rfl hm (g0 _ (by omega))) | exact ev_assign rfl | (apply gBin; first | exact ev_eqs rfl rfl | exact ev_lti rfl rfl | exact ev_add64 rfl rfl (by omega)) | (apply gIxA; first | exact ev_indexAddr (slT rfl) (szT rfl) rfl rfl (by omega)))))) | ((show W _ _ _ _ _ _ _ _ _); first | apply W.seq | apply W.region | apply W.block | apply W.blk | apply W.skip | (refine W.cond rfl ?_ ?_ <;> (intro h; try (exfalso; first | contradiction | omega | exact h rfl | exact h ⟨rfl, rfl⟩ | (simp_all; done)))) | (refine W.ret1 rfl rfl ?_; intro w hs)))
    all_goals first
      | exact W.again (j + 1) ⟨hlt, take_snoc_all (d := []) hlt hall (by rw [hy]; intro e; exact absurd e.symm (by assumption))⟩ (by omega) (by repeat (first | exact SubL.nil | refine SubL.cons rfl ?_)) (List.Sublist.refl _)
      | exact ret_eq hs (by rw [idxW_at hlt hall (by rw [hy]; symm; assumption)])
      | fail
  · obtain rfl : j = l.length := by omega
    rw [List.take_length] at hall
    repeat' (first | (apply gL; first | (apply Wl.ev rfl rfl; (focus (first | exact ev_assign rfl | exact ev_lti rfl rfl))) | apply Wl.nil) | (apply gQ; first | (apply Wq.ev rfl rfl; (focus (first | exact ev_assign rfl | exact ev_lti rfl rfl)))) | ((show W _ _ _ _ _ _ _ _ _); first | apply W.seq | apply W.region | (refine W.exit rfl ?_) | (refine W.cond rfl ?_ ?_ <;> (intro h; try (exfalso; first | contradiction | omega | exact h rfl | exact h ⟨rfl, rfl⟩ | (simp_all; done)))) | (refine W.ret1 rfl rfl ?_; intro w hs)))
    all_goals exact ret_eq hs (by rw [idxW_none hall])
theorem six {w0 w : World} {H : List Ent} {b : Nat} {o : Obj} (lb : Lb w0) (hs : St [] w0 w H) (hm : (⟨b, true, o⟩ : Ent) ∈ H) : 6 ≤ b := by
  have := lb.size
  rcases (hs.own _ hm).2 rfl with h | h
  · simp only at h; omega
  · cases h
theorem wrong_own {M : List Nat} {w0 w : World} {H : List Ent} {op : Int} {is : List Int} {bs tx : List UInt8} {oi ob : Ow} (hs : St M w0 w H) (h1 : ownOk is.length 1 (intV is) oi) (h2 : ownOk bs.length 1 (bytV bs) ob) (m1 : ∀ p ∈ ownH 3 oi, p ∈ H) (m2 : ∀ p ∈ ownH 5 ob, p ∈ H)
    (hi : is.length ≤ 1000000) (hb : bs.length ≤ 1000000) (ht : tx.length ≤ 1000000) (lb : Lb w) : Calls Tryd.prog 47 #[.agg [.int .i64 op, ownV is.length oi, ownV bs.length ob, st tx].toArray] w (Give (.bool (!decide (okC ⟨op, is, bs, tx⟩))) w) :=
  wrong_ok (y := ⟨⟨op, is, bs, tx⟩, ownV is.length oi, ownV bs.length ob⟩) hs ⟨RdX.own h1 m1, RdX.own h2 m2⟩ hi hb ht lb
theorem all_one_cons {v : Value} {l : List Value} (h : v.oneCell' = true) (hl : l.all (·.oneCell') = true) : (v :: l).all (·.oneCell') = true := by rw [List.all_cons, h, hl]; rfl
theorem ifOk_some (x : Cl) : (ifOk x).isSome = decide (okC x) := by
  unfold ifOk
  by_cases h : okC x
  · rw [if_pos h, decide_eq_true h]; rfl
  · rw [if_neg h, decide_eq_false h]; rfl
/-- a command with slices of its own -/
structure Co where
  c : Cl
  oi : Ow
  ob : Ow
abbrev coV (k : Co) : Cv := ⟨k.c, ownV k.c.is.length k.oi, ownV k.c.bs.length k.ob⟩
def coOk (k : Co) : Prop := ownOk k.c.is.length 1 (intV k.c.is) k.oi ∧ ownOk k.c.bs.length 1 (bytV k.c.bs) k.ob ∧ k.c.is.length ≤ 1000000 ∧ k.c.bs.length ≤ 1000000 ∧ k.c.tx.length ≤ 1000000
def coN (k : Co) : List (Nat × Obj) := owN 3 k.oi ++ owN 5 k.ob
theorem ents_coN (k : Co) : ents (coN k) = ownH 3 k.oi ++ ownH 5 k.ob := by
  unfold coN
  rw [← ents_owN, ← ents_owN]
  simp [ents]
theorem word_cons_ne {c : UInt8} {t : List UInt8} (h : c ≠ 32) : (wordR (c :: t)).1 ≠ [] := by
  unfold wordR
  split
  · dsimp only
    rw [fore_cons, if_neg h]
    simp
  · simp
theorem intV_snoc (l : List Int) (x : Int) : intV (l ++ [x]) = intV l ++ [.int .i64 x] := by simp [intV]
theorem map_app {o : Option (List Int × List UInt8)} {a : List Int} {x : Int} : (o.map fun q => (x :: q.1, q.2)).map (fun q => (a ++ q.1, q.2)) = o.map fun q => ((a ++ [x]) ++ q.1, q.2) := by
  cases o <;> simp
theorem word_len2 (r : List UInt8) (h : r ≠ []) : (wordR r).2.length ≤ r.length := by
  rcases (word_sound r).2 with ⟨h1, h2⟩ | ⟨h1, h2⟩ | ⟨h1, h2⟩
  · rw [h2]; exact Nat.zero_le _
  · rw [h2]
    have := List.length_pos_iff.2 h
    simp only [List.length_cons, List.length_nil]
    omega
  · have := congrArg List.length h1
    simp only [List.length_append, List.length_cons] at this
    omega
end Go.Proofs.YtdnicbbandbdbaaDoor
