/- Walks: a reader's words, numbers, pairs of digits. No condition but the listed tables and cells that the library reads. -/
import Derived.Test.YtdnicbbandbdbaaDoorSH
namespace Go.Proofs.YtdnicbbandbdbaaDoor
open Go.PB Go.RowKit
attribute [local irreducible] Go.Calls
/-! the library's functions, in plain words -/
theorem index_one (b : UInt8) : ∀ l : List UInt8, Lib.index l [b] = if (fore b l).length < l.length then ((fore b l).length : Int) else -1
  | [] => rfl
  | c :: l => by
    have ih := index_one b l
    have hle := fore_len b l
    simp only [Lib.index, List.isPrefixOf, Bool.and_true]
    rw [fore_cons]
    by_cases h : c = b
    · subst h
      simp
    · have h' : (b == c) = false := by simpa using fun e : b = c => h e.symm
      rw [h', if_neg h, ih]
      simp only [Bool.false_eq_true, if_false, List.length_cons]
      by_cases hc : (fore b l).length < l.length
      · rw [if_pos hc]
        have h1 : (((fore b l).length : Int) == -1) = false := by rw [beq_eq_false_iff_ne]; omega
        have h2 : (fore b l).length + 1 < l.length + 1 := by omega
        simp only [h1, h2, if_true, Bool.false_eq_true, if_false]
        omega
      · rw [if_neg hc]
        have h2 : ¬ (fore b l).length + 1 < l.length + 1 := by omega
        simp only [h2, if_false]
        rfl
theorem cut_one (b : UInt8) (l : List UInt8) : Lib.cut l [b] = if (fore b l).length < l.length then (fore b l, l.drop ((fore b l).length + 1), true) else (l, [], false) := by
  unfold Lib.cut
  rw [index_one]
  by_cases h : (fore b l).length < l.length
  · rw [if_pos h, if_pos h, if_pos (by omega)]
    have hp : fore b l <+: l := List.takeWhile_prefix _
    have : l.take (fore b l).length = fore b l := (List.prefix_iff_eq_take.1 hp).symm
    simp only [Int.toNat_natCast, List.length_singleton]
    rw [this]
  · rw [if_neg h, if_neg h, if_neg (by omega)]
def cutV (b : UInt8) (l : List UInt8) : Value := .tuple #[st (Lib.cut l [b]).1, st (Lib.cut l [b]).2.1, .bool (Lib.cut l [b]).2.2]
theorem cut_ok (b : UInt8) (l : List UInt8) (hl : l.length < 4294967281) (w : World) (lb : Lb w) : Calls Tryd.prog 27 #[st l, st [b]] w (Give (cutV b l) w) := by
  obtain ⟨v, hm, m, rfl⟩ := lb.mx
  refine (Tryd.strings_Cut ⟨l.toArray⟩ ⟨[b].toArray⟩ m w (by rw [bytes_size]; exact hl) hm).mono fun e w' ⟨h1, n, h2⟩ => ?_
  refine ⟨h1, ?_⟩
  rw [h2]
  exact ⟨rfl, rfl, rfl, Nat.le_refl _, fun _ _ _ => rfl, by simp, by simp, .nil⟩
/-- what a reader has left -/
abbrev rdB (l : List UInt8) : Obj := row [st l] 89
set_option maxRecDepth 100000 in
theorem word_ok2 {r : Nat} {l : List UInt8} (hl : l.length ≤ 1000000) (w : World) (lb : Lb w) (hr : w.heap[r]? = some (rdB l)) (h6 : 6 ≤ r) :
    Calls Tryd.prog 53 #[ptr r] w (GiveT (st (wordR l).1) r (rdB (wordR l).2) w) := by
  refine giveT_of_W (vs := [ptr r]) Tryd.func53 rfl Tryd.ntmps53 (Nat.le_of_ble_eq_true rfl) (St.turnable hr) ?_
  simp only [argL]
  have lo : Low [r] := fun b hb => by rw [List.mem_singleton] at hb; rw [hb]; exact h6
  obtain ⟨C, hC⟩ : ∃ C, cutV 32 l = C := ⟨_, rfl⟩
  have hcut : ∀ w, Lb w → Calls Tryd.prog 27 #[st l, st [32]] w (Give C w) := fun w lb => by rw [← hC]; exact cut_ok 32 l (by omega) w lb
  unfold cutV at hC
  rw [cut_one] at hC
  unfold wordR
  have hfl := fore_len 32 l
  by_cases h : (fore 32 l).length < l.length
  · rw [if_pos h] at hC ⊢
    dsimp only at hC ⊢
    subst hC
    by_cases hn : l.drop ((fore 32 l).length + 1) = []
    · rw [if_pos hn]
      repeat' (first | (apply gL; first | (apply Wl.ev rfl rfl; (focus (first | exact ev_move rfl | (apply gLoa; first | exact ev_load (agT rfl) rfl (by repeat (first | exact List.Mem.head _ | apply List.Mem.tail)) rfl) | (apply gFie; first | exact ev_fieldAddr0 (fldT rfl) rfl) | exact ev_assign rfl | exact ev_pickT rfl rfl | (apply gBin; first | exact ev_eqs rfl rfl | exact ev_lti rfl rfl) | exact ev_extract rfl rfl | (apply gCal; first | exact ev_len_string (strT rfl) rfl) | exact ev_nilCheck_ptr rfl))) | ((show Wl _ _ _ _ _ _ _ (⟨_, .call ⟨.value (.func 27), _, _⟩, _, _, _, _⟩ :: _) _ _); refine wl_call0 rfl rfl has27 rfl (fun w hs => hcut w (lb.st hs lo)) ?_) | apply Wl.nil | (refine wl_store1 rfl rfl rfl rfl (szT rfl) (by repeat (first | exact Upd.here | apply Upd.there)) (by first | decide | (simp; done)) ?_; try simp only [List.set]) | ((fail_if_success (apply Wl.chk rfl)); refine Wl.split rfl rfl ?_ ?_ <;> (intro h; try (exfalso; first | contradiction | omega | exact h rfl | exact h ⟨rfl, rfl⟩ | (simp_all; done))))) | (apply gQ; first | (apply Wq.ev rfl rfl; (focus (first | exact ev_move rfl | (apply gLoa; first | exact ev_load (agT rfl) rfl (by repeat (first | exact List.Mem.head _ | apply List.Mem.tail)) rfl) | (apply gFie; first | exact ev_fieldAddr0 (fldT rfl) rfl) | exact ev_assign rfl | exact ev_pickT rfl rfl | (apply gBin; first | exact ev_eqs rfl rfl | exact ev_lti rfl rfl) | exact ev_extract rfl rfl | (apply gCal; first | exact ev_len_string (strT rfl) rfl) | exact ev_nilCheck_ptr rfl)))) | ((show W _ _ _ _ _ _ _ _ _); first | apply W.seq | apply W.region | (refine W.cond rfl ?_ ?_ <;> (intro h; try (exfalso; first | contradiction | omega | exact h rfl | exact h ⟨rfl, rfl⟩ | (simp_all; done)))) | (refine W.ret1 rfl rfl ?_; intro w hs)))
      all_goals first | exact retT hs (lt_of_get hr) (List.Mem.head _) rfl | (exfalso; omega) | contradiction | fail
    · rw [if_neg hn]
      repeat' (first | (apply gL; first | (apply Wl.ev rfl rfl; (focus (first | exact ev_move rfl | (apply gLoa; first | exact ev_load (agT rfl) rfl (by repeat (first | exact List.Mem.head _ | apply List.Mem.tail)) rfl) | (apply gFie; first | exact ev_fieldAddr0 (fldT rfl) rfl) | exact ev_assign rfl | exact ev_pickT rfl rfl | (apply gBin; first | exact ev_eqs rfl rfl | exact ev_lti rfl rfl) | exact ev_extract rfl rfl | (apply gCal; first | exact ev_len_string (strT rfl) rfl) | exact ev_nilCheck_ptr rfl))) | ((show Wl _ _ _ _ _ _ _ (⟨_, .call ⟨.value (.func 27), _, _⟩, _, _, _, _⟩ :: _) _ _); refine wl_call0 rfl rfl has27 rfl (fun w hs => hcut w (lb.st hs lo)) ?_) | apply Wl.nil | (refine wl_store1 rfl rfl rfl rfl (szT rfl) (by repeat (first | exact Upd.here | apply Upd.there)) (by first | decide | (simp; done)) ?_; try simp only [List.set]) | ((fail_if_success (apply Wl.chk rfl)); refine Wl.split rfl rfl ?_ ?_ <;> (intro h; try (exfalso; first | contradiction | omega | exact h rfl | exact h ⟨rfl, rfl⟩ | (simp_all; done))))) | (apply gQ; first | (apply Wq.ev rfl rfl; (focus (first | exact ev_move rfl | (apply gLoa; first | exact ev_load (agT rfl) rfl (by repeat (first | exact List.Mem.head _ | apply List.Mem.tail)) rfl) | (apply gFie; first | exact ev_fieldAddr0 (fldT rfl) rfl) | exact ev_assign rfl | exact ev_pickT rfl rfl | (apply gBin; first | exact ev_eqs rfl rfl | exact ev_lti rfl rfl) | exact ev_extract rfl rfl | (apply gCal; first | exact ev_len_string (strT rfl) rfl) | exact ev_nilCheck_ptr rfl)))) | ((show W _ _ _ _ _ _ _ _ _); first | apply W.seq | apply W.region | apply W.skip | (refine W.cond rfl ?_ ?_ <;> (intro h; try (exfalso; first | contradiction | omega | exact h rfl | exact h ⟨rfl, rfl⟩ | (simp_all; done)))) | (refine W.ret1 rfl rfl ?_; intro w hs)))
      all_goals first | exact retT hs (lt_of_get hr) (List.Mem.head _) rfl | (exfalso; omega) | contradiction | fail
  · rw [if_neg h] at hC ⊢
    dsimp only at hC ⊢
    subst hC
    repeat' (first | (apply gL; first | (apply Wl.ev rfl rfl; (focus (first | exact ev_move rfl | (apply gLoa; first | exact ev_load (agT rfl) rfl (by repeat (first | exact List.Mem.head _ | apply List.Mem.tail)) rfl) | (apply gFie; first | exact ev_fieldAddr0 (fldT rfl) rfl) | exact ev_assign rfl | exact ev_pickF rfl rfl | exact ev_lti rfl rfl | exact ev_extract rfl rfl | (apply gCal; first | exact ev_len_string (strT rfl) rfl) | exact ev_nilCheck_ptr rfl))) | ((show Wl _ _ _ _ _ _ _ (⟨_, .call ⟨.value (.func 27), _, _⟩, _, _, _, _⟩ :: _) _ _); refine wl_call0 rfl rfl has27 rfl (fun w hs => hcut w (lb.st hs lo)) ?_) | apply Wl.nil | (refine Wl.skip rfl rfl ?_) | (refine wl_store1 rfl rfl rfl rfl (szT rfl) (by repeat (first | exact Upd.here | apply Upd.there)) (by first | decide | (simp; done)) ?_; try simp only [List.set]) | ((fail_if_success (apply Wl.chk rfl)); refine Wl.split rfl rfl ?_ ?_ <;> (intro h; try (exfalso; first | contradiction | omega | exact h rfl | exact h ⟨rfl, rfl⟩ | (simp_all; done))))) | (apply gQ; first | (apply Wq.ev rfl rfl; (focus (first | exact ev_move rfl | (apply gLoa; first | exact ev_load (agT rfl) rfl (by repeat (first | exact List.Mem.head _ | apply List.Mem.tail)) rfl) | (apply gFie; first | exact ev_fieldAddr0 (fldT rfl) rfl) | exact ev_assign rfl | exact ev_pickF rfl rfl | exact ev_lti rfl rfl | exact ev_extract rfl rfl | (apply gCal; first | exact ev_len_string (strT rfl) rfl) | exact ev_nilCheck_ptr rfl)))) | ((show W _ _ _ _ _ _ _ _ _); first | apply W.seq | apply W.region | apply W.skip | (refine W.condF rfl ?_) | (refine W.ret1 rfl rfl ?_; intro w hs)))
    all_goals first | exact retT hs (lt_of_get hr) (List.Mem.head _) rfl | (exfalso; omega) | contradiction | fail
end Go.Proofs.YtdnicbbandbdbaaDoor
