/- Walks: a reader's numbers, digits, pairs of digits. No condition but the listed tables and cells that the library reads. -/
import Derived.Test.YtdnicbbandbdbaaDoorSI
import Derived.Test.YtdnicbbandbdbaaDoorSF
import Derived.Lib.AtoiTie
import Derived.Lib.AtoiAllCases
import Derived.WideLaws
namespace Go.PB
open Go.RowKit
section
variable {P : Program} {ops : Array Oper} {Q : Exit → Act → World → Prop} {M : List Nat} {w0 w w' : World} {n : Nat} {D : List Deferred} {L : List (Nat × Value)} {H : List Ent} {rest : List Oper}
  {d : Tmp} {oty t t' : TypeId} {pos : String} {after : Array Edge} {g : Option (Nat × Bool)} {x : Operand}
theorem ev_eqNilNil (h : P.underlying t = some (.interface (P.methodsAt t))) (hx : evo L x = some .nilIface) : Ev P M w0 n D L H (.binOp .eql t x (.const .nilIface) t') oty (.bool true) := by
  unfold Ev
  intro a w hf _ dst pos after g
  have hg : (eqGuard .eql t x (.const .nilIface) .nilIface .nilIface).run P w = .ok () w := by
    unfold eqGuard
    simp
  have e : a.eval (.const .nilIface) = .nilIface := rfl
  simp [execOp, hf.eval hx, e, hg, run_eql_nil_nil w t h]
theorem ev_eqHeldNil {u : TypeId} {v : Value} (h : P.underlying t = some (.interface (P.methodsAt t))) (hx : evo L x = some (.iface u v)) : Ev P M w0 n D L H (.binOp .eql t x (.const .nilIface) t') oty (.bool false) := by
  unfold Ev
  intro a w hf _ dst pos after g
  have hg : (eqGuard .eql t x (.const .nilIface) (.iface u v) .nilIface).run P w = .ok () w := by
    unfold eqGuard
    simp
  have e : a.eval (.const .nilIface) = .nilIface := rfl
  simp [execOp, hf.eval hx, e, hg, run_eql_held_nil w t u v h]
theorem ev_neNilNil (h : P.underlying t = some (.interface (P.methodsAt t))) (hx : evo L x = some .nilIface) : Ev P M w0 n D L H (.binOp .neq t x (.const .nilIface) t') oty (.bool false) := by
  unfold Ev
  intro a w hf _ dst pos after g
  have hg : (eqGuard .neq t x (.const .nilIface) .nilIface .nilIface).run P w = .ok () w := by
    unfold eqGuard
    simp
  have e : a.eval (.const .nilIface) = .nilIface := rfl
  simp [execOp, hf.eval hx, e, hg, run_neq_nil_nil w t h]
theorem ev_neHeldNil {u : TypeId} {v : Value} (h : P.underlying t = some (.interface (P.methodsAt t))) (hx : evo L x = some (.iface u v)) : Ev P M w0 n D L H (.binOp .neq t x (.const .nilIface) t') oty (.bool true) := by
  unfold Ev
  intro a w hf _ dst pos after g
  have hg : (eqGuard .neq t x (.const .nilIface) (.iface u v) .nilIface).run P w = .ok () w := by
    unfold eqGuard
    simp
  have e : a.eval (.const .nilIface) = .nilIface := rfl
  simp [execOp, hf.eval hx, e, hg, run_neq_held_nil w t u v h]
end
end Go.PB
namespace Go.Proofs.YtdnicbbandbdbaaDoor
open Go.PB Go.RowKit
attribute [local irreducible] Go.Calls
/-! numerals, in plain words -/
theorem decFrom_all : ∀ (l : List UInt8) (a : Nat), (∀ b ∈ l, 48 ≤ b.toNat ∧ b.toNat ≤ 57) → Lib.decFrom a l = some (l.foldl (fun a b => a * 10 + (b.toNat - 48)) a)
  | [], _, _ => rfl
  | b :: l, a, h => by
    have hd : Lib.digitVal b = some (b.toNat - 48) := by unfold Lib.digitVal; rw [if_pos (h b (List.Mem.head _))]
    simp only [Lib.decFrom, hd]
    exact decFrom_all l _ fun c hc => h c (List.Mem.tail _ hc)
theorem decNat_dd (n : Nat) : Lib.decNat (Lib.decDigits n) = some n := by
  have h0 : (Lib.decDigits n).isEmpty = false := by
    have := dd_ne n
    cases h : Lib.decDigits n with
    | nil => exact absurd h this
    | cons a l => rfl
  unfold Lib.decNat
  rw [h0]
  have := decFrom_all (Lib.decDigits n) 0 (dd_all n)
  have hv := val_dd n
  unfold valD at hv
  rw [this, hv]
  rfl
theorem atoi_itoa (n : Int) : Lib.atoi (Lib.itoa n) = some n := by
  unfold Lib.itoa
  split
  · rename_i h
    show (Lib.decNat _).map _ = _
    rw [decNat_dd]
    simp only [Option.map_some, Option.some.injEq]
    omega
  · rename_i h
    have hd := decNat_dd n.toNat
    have ha := dd_all n.toNat
    cases hl : Lib.decDigits n.toNat with
    | nil => exact absurd hl (dd_ne _)
    | cons c r =>
      rw [hl] at hd ha
      have hc := ha c (List.Mem.head _)
      have h1 : (c == 45) = false := by rw [beq_eq_false_iff_ne]; rintro rfl; revert hc; decide
      have h2 : (c == 43) = false := by rw [beq_eq_false_iff_ne]; rintro rfl; revert hc; decide
      simp only [Lib.atoi, h1, h2, Bool.false_eq_true, if_false, hd, Option.map_some, Option.some.injEq]
      omega
theorem itoa_len11 {n : Int} (h : inMost n) : (Lib.itoa n).length ≤ 11 := by
  unfold inMost most at h
  unfold Lib.itoa
  split
  · rw [List.length_cons, Lib.decDigits_length]
    have := dig_len 9 n.natAbs (by omega)
    omega
  · rw [Lib.decDigits_length]
    have := dig_len 9 n.toNat (by omega)
    omega
theorem atoiAll_itoa {n : Int} (h : inMost n) : Lib.atoiAll (Lib.itoa n) = .ok n := by
  rw [Lib.atoiAll_short _ (by have := itoa_len11 h; omega), atoi_itoa]
  rfl
theorem num_ok {s : List UInt8} {v : Int} (h : Lib.atoiAll s = .ok v) : numO s = if Lib.itoa v = s ∧ inMost v then some v else none := by
  split
  · rename_i hc
    exact numO_iff.2 ⟨hc.1.symm, hc.2⟩
  · rename_i hc
    cases hn : numO s with
    | none => rfl
    | some n =>
      obtain ⟨rfl, h2⟩ := numO_iff.1 hn
      rw [atoiAll_itoa h2] at h
      cases h
      exact absurd ⟨rfl, h2⟩ hc
theorem num_no {s : List UInt8} (h : ∀ v, Lib.atoiAll s ≠ .ok v) : numO s = none := by
  cases hn : numO s with
  | none => rfl
  | some n =>
    obtain ⟨rfl, h2⟩ := numO_iff.1 hn
    exact absurd (atoiAll_itoa h2) (h n)
/-- the number that the library gives -/
def atoV (s : List UInt8) : Int := match Lib.atoiAll s with
  | .ok v => v
  | .range => Lib.atoiSat s
  | _ => 0
def isOkN (s : List UInt8) : Prop := ∃ v, Lib.atoiAll s = .ok v
theorem atoV_num {s : List UInt8} {n : Int} (h : numO s = some n) : atoV s = n := by
  obtain ⟨rfl, h2⟩ := numO_iff.1 h
  unfold atoV
  rw [atoiAll_itoa h2]
theorem below_ext {w w' : World} (h : Below w.heap.size w w') : Ext w w' := ⟨h.os, h.tape, h.output, h.size, fun k hk _ => h.block k hk, by simp, by simp, .nil⟩
theorem bytesWorld_ext (w : World) (e : TypeId) (t : ByteArray) : Ext w (Lib.bytesWorld w e t) := below_ext (Lib.bytesWorld_below w e t)
theorem atoi_ok {s : List UInt8} {v : Int} (hs : s.length ≤ 1000000) (h : Lib.atoiAll s = .ok v) (w : World) : Calls Tryd.prog 72 #[st s] w (Give (.tuple #[.int .i64 v, .nilIface]) w) := by
  refine (Tryd.strconv_Atoi_ok ⟨s.toArray⟩ (by rw [bytes_size]; omega) v h w).mono fun e w' ⟨h1, h2⟩ => ⟨h1, ?_⟩
  rcases h2 with rfl | ⟨t, rfl⟩
  · exact ⟨rfl, rfl, rfl, Nat.le_refl _, fun _ _ _ => rfl, by simp, by simp, .nil⟩
  · exact bytesWorld_ext _ _ _
theorem atoi_no {s : List UInt8} (hs : s.length ≤ 1000000) (h : ∀ v, Lib.atoiAll s ≠ .ok v) (w : World) (lb : Lb w) :
    Calls Tryd.prog 72 #[st s] w (Gives (fun N : Nat => .tuple #[.int .i64 (atoV s), .iface 134 (.pointer (some ⟨N, 0, none⟩))]) (fun _ => True) w (fun _ => []) (fun _ => [])) := by
  unfold atoV
  cases hc : Lib.atoiAll s
  · exact absurd hc (h _)
  · obtain ⟨ev, h1, h2⟩ := lb.e1
    refine (Tryd.strconv_Atoi_syntax ⟨s.toArray⟩ (by rw [bytes_size]; omega) h (fun e => by rw [show Lib.atoiAll (ByteArray.mk s.toArray).data.toList = Lib.atoiAll s from rfl, hc] at e; cases e) ev w h1 h2).mono fun e w' ⟨N, h1, _, _, h3⟩ => ⟨N, trivial, h1, below_ext h3⟩
  · obtain ⟨ev, h1, h2⟩ := lb.e2
    refine (Tryd.strconv_Atoi_range ⟨s.toArray⟩ (by rw [bytes_size]; omega) hc ev w h1 h2).mono fun e w' ⟨N, h1, _, _, h3⟩ => ⟨N, trivial, h1, below_ext h3⟩
theorem word_len1 (r : List UInt8) : (wordR r).1.length ≤ r.length := by
  rcases (word_sound r).2 with ⟨h1, _⟩ | ⟨h1, _⟩ | ⟨h1, _⟩
  all_goals
    have := congrArg List.length h1
    try simp only [List.length_append, List.length_cons] at this
    omega
set_option maxRecDepth 100000 in
theorem number_ok {r : Nat} {l : List UInt8} (hl : l.length ≤ 1000000) (w : World) (lb : Lb w) (hr : w.heap[r]? = some (rdB l)) (h6 : 6 ≤ r) :
    Calls Tryd.prog 54 #[ptr r] w (GiveT (.tuple #[.int .i64 (atoV (wordR l).1), .bool (numO (wordR l).1).isSome]) r (rdB (wordR l).2) w) := by
  refine giveT_of_W (vs := [ptr r]) Tryd.func54 rfl Tryd.ntmps54 (Nat.le_of_ble_eq_true rfl) (St.turnable hr) ?_
  simp only [argL]
  have lo : Low [r] := fun b hb => by rw [List.mem_singleton] at hb; rw [hb]; exact h6
  have hwl := word_len1 l
  have hw : ∀ w', St [r] w w' [⟨r, true, rdB l⟩] → Calls Tryd.prog 53 #[ptr r] w' (GiveT (st (wordR l).1) r (rdB (wordR l).2) w') := fun w' hs => word_ok2 hl w' (lb.st hs lo) (hs.get (List.Mem.head _)) h6
  obtain ⟨q, t, hq⟩ : ∃ q t, wordR l = (q, t) := ⟨_, _, rfl⟩
  rw [hq] at hw hwl ⊢
  dsimp only at hw hwl ⊢
  by_cases hk : ∃ v, Lib.atoiAll q = .ok v
  · obtain ⟨v, hv⟩ := hk
    have hb := Lib.atoiAll_bounds hv
    have ha : atoV q = v := by unfold atoV; rw [hv]
    rw [num_ok hv, ha]
    obtain ⟨p, hp⟩ : ∃ p, Lib.itoa v = p := ⟨_, rfl⟩
    have hit := itoa_ok v hb.1 hb.2
    rw [hp] at hit ⊢
    repeat' (first | (apply gL; first | (apply Wl.ev rfl rfl; (focus (first | exact ev_move rfl | exact ev_assign rfl | (apply gPic; first | exact ev_pickT rfl rfl | exact ev_pickF rfl rfl) | (apply gBin; first | exact ev_eqNilNil (by kernel_rfl) rfl | exact ev_eqi rfl rfl | exact ev_eqsT rfl rfl (by decide) | exact ev_eqsF rfl rfl (by decide) | exact ev_eqs rfl rfl | exact ev_lei rfl rfl | exact ev_gei rfl rfl | exact ev_eqFlatD (flatT rfl) rfl rfl rfl eqL_ii | exact ev_eqb_self (boolT rfl) rfl rfl | exact ev_eqb (boolT rfl) rfl rfl) | exact ev_extract rfl rfl))) | ((show Wl _ _ _ _ _ _ _ (⟨_, .call ⟨.value (.func 53), _, _⟩, _, _, _, _⟩ :: _) _ _); refine wl_callT0 rfl rfl has53 rfl (fun w hs => hw w hs) (by repeat (first | exact Upd.here | apply Upd.there)) ?_) | ((show Wl _ _ _ _ _ _ _ (⟨_, .call ⟨.value (.func 72), _, _⟩, _, _, _, _⟩ :: _) _ _); refine wl_call0 rfl rfl has72 rfl (fun w hs => atoi_ok (by omega) hv w) ?_) | ((show Wl _ _ _ _ _ _ _ (⟨_, .call ⟨.value (.func 61), _, _⟩, _, _, _, _⟩ :: _) _ _); refine wl_call0 rfl rfl has61 rfl (fun w hs => hit w (lb.st hs lo).pw) ?_) | apply Wl.nil | (refine Wl.skip rfl rfl ?_) | (refine Wl.skip0 rfl ?_) | ((fail_if_success (apply Wl.chk rfl)); refine Wl.split rfl rfl ?_ ?_ <;> (intro h; try (exfalso; first | contradiction | omega | exact h rfl | exact h ⟨rfl, rfl⟩ | (simp_all; done)))) | ((fail_if_success (apply Wl.chk rfl)); refine Wl.splitB rfl rfl ?_ ?_ <;> (intro h; try (exfalso; first | contradiction | (simp_all; done))))) | (apply gQ; first | (apply Wq.ev rfl rfl; (focus (first | exact ev_move rfl | exact ev_assign rfl | (apply gPic; first | exact ev_pickT rfl rfl | exact ev_pickF rfl rfl) | (apply gBin; first | exact ev_eqNilNil (by kernel_rfl) rfl | exact ev_eqi rfl rfl | exact ev_eqsT rfl rfl (by decide) | exact ev_eqsF rfl rfl (by decide) | exact ev_eqs rfl rfl | exact ev_lei rfl rfl | exact ev_gei rfl rfl | exact ev_eqFlatD (flatT rfl) rfl rfl rfl eqL_ii | exact ev_eqb_self (boolT rfl) rfl rfl | exact ev_eqb (boolT rfl) rfl rfl) | exact ev_extract rfl rfl))) | apply Wq.nil | (refine Wq.skip rfl rfl ?_) | ((fail_if_success (apply Wq.chk rfl)); refine Wq.split rfl rfl ?_ ?_ <;> (intro h; try (exfalso; first | contradiction | omega | exact h rfl | exact h ⟨rfl, rfl⟩ | (simp_all; done)))) | ((fail_if_success (apply Wq.chk rfl)); refine Wq.splitB rfl rfl ?_ ?_ <;> (intro h; try (exfalso; first | contradiction | (simp_all; done))))) | ((show W _ _ _ _ _ _ _ _ _); first | apply W.seq | (refine W.regionQ mixed (by kernel_rfl) ?_) | apply W.region | apply W.block | apply W.blk | apply W.skip | apply W.scp | apply W.label | apply W.scope0 | (refine W.exit rfl ?_) | (refine W.condT rfl ?_) | (refine W.condF rfl ?_) | (refine W.cond rfl ?_ ?_ <;> (intro h; try (exfalso; first | contradiction | omega | exact h rfl | exact h ⟨rfl, rfl⟩ | (simp_all; done)))) | (refine W.condB rfl ?_ ?_ <;> (intro h; try (exfalso; first | contradiction | (simp_all; done)))) | (refine W.ret2 rfl rfl rfl ?_; intro w hs)))
    all_goals first | exact retT hs (lt_of_get hr) (List.Mem.head _) (congrArg (fun b => Value.tuple #[.int .i64 v, .bool b]) (by by_cases h9 : v ≤ 9999999999 <;> simp [inMost, most, *])) | fail
  · have hk' : ∀ v, Lib.atoiAll q ≠ .ok v := fun v h => hk ⟨v, h⟩
    rw [num_no hk']
    repeat' (first | (apply gL; first | (apply Wl.ev rfl rfl; (focus (first | exact ev_move rfl | exact ev_assign rfl | (apply gPic; first | exact ev_pickT rfl rfl | exact ev_pickF rfl rfl) | (apply gBin; first | exact ev_eqHeldNil (by kernel_rfl) rfl | exact ev_eqi rfl rfl | exact ev_eqsT rfl rfl (by decide) | exact ev_eqsF rfl rfl (by decide) | exact ev_eqs rfl rfl | exact ev_lei rfl rfl | exact ev_gei rfl rfl | exact ev_eqFlatD (flatT rfl) rfl rfl rfl eqL_ii | exact ev_eqb_self (boolT rfl) rfl rfl | exact ev_eqb (boolT rfl) rfl rfl) | exact ev_extract rfl rfl))) | ((show Wl _ _ _ _ _ _ _ (⟨_, .call ⟨.value (.func 53), _, _⟩, _, _, _, _⟩ :: _) _ _); refine wl_callT0 rfl rfl has53 rfl (fun w hs => hw w hs) (by repeat (first | exact Upd.here | apply Upd.there)) ?_) | ((show Wl _ _ _ _ _ _ _ (⟨_, .call ⟨.value (.func 72), _, _⟩, _, _, _, _⟩ :: _) _ _); refine wl_callX rfl rfl has72 rfl (fun w hs => atoi_no (by omega) hk' w (lb.st hs lo) ) ?_; intro N _; try simp only [ents, List.map_nil, List.nil_append]; try simp only [ents, List.map_cons, List.map_nil, List.cons_append, List.nil_append]) | apply Wl.nil | (refine Wl.skip rfl rfl ?_) | (refine Wl.skip0 rfl ?_) | ((fail_if_success (apply Wl.chk rfl)); refine Wl.split rfl rfl ?_ ?_ <;> (intro h; try (exfalso; first | contradiction | omega | exact h rfl | exact h ⟨rfl, rfl⟩ | (simp_all; done)))) | ((fail_if_success (apply Wl.chk rfl)); refine Wl.splitB rfl rfl ?_ ?_ <;> (intro h; try (exfalso; first | contradiction | (simp_all; done))))) | (apply gQ; first | (apply Wq.ev rfl rfl; (focus (first | exact ev_move rfl | exact ev_assign rfl | (apply gPic; first | exact ev_pickT rfl rfl | exact ev_pickF rfl rfl) | (apply gBin; first | exact ev_eqHeldNil (by kernel_rfl) rfl | exact ev_eqi rfl rfl | exact ev_eqsT rfl rfl (by decide) | exact ev_eqsF rfl rfl (by decide) | exact ev_eqs rfl rfl | exact ev_lei rfl rfl | exact ev_gei rfl rfl | exact ev_eqFlatD (flatT rfl) rfl rfl rfl eqL_ii | exact ev_eqb_self (boolT rfl) rfl rfl | exact ev_eqb (boolT rfl) rfl rfl) | exact ev_extract rfl rfl))) | apply Wq.nil | (refine Wq.skip rfl rfl ?_) | ((fail_if_success (apply Wq.chk rfl)); refine Wq.split rfl rfl ?_ ?_ <;> (intro h; try (exfalso; first | contradiction | omega | exact h rfl | exact h ⟨rfl, rfl⟩ | (simp_all; done)))) | ((fail_if_success (apply Wq.chk rfl)); refine Wq.splitB rfl rfl ?_ ?_ <;> (intro h; try (exfalso; first | contradiction | (simp_all; done))))) | ((show W _ _ _ _ _ _ _ _ _); first | apply W.seq | (refine W.regionQ mixed (by kernel_rfl) ?_) | apply W.region | apply W.block | apply W.blk | apply W.skip | apply W.scp | apply W.label | apply W.scope0 | (refine W.exit rfl ?_) | (refine W.condT rfl ?_) | (refine W.condF rfl ?_) | (refine W.cond rfl ?_ ?_ <;> (intro h; try (exfalso; first | contradiction | omega | exact h rfl | exact h ⟨rfl, rfl⟩ | (simp_all; done)))) | (refine W.condB rfl ?_ ?_ <;> (intro h; try (exfalso; first | contradiction | (simp_all; done)))) | (refine W.ret2 rfl rfl rfl ?_; intro w hs)))
    all_goals first | exact retT hs (lt_of_get hr) (List.Mem.head _) rfl | fail
end Go.Proofs.YtdnicbbandbdbaaDoor
