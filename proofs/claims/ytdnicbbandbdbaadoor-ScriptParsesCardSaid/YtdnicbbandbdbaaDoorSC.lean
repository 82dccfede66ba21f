/- Walks: the commands' words; which scripts may be. No condition but the listed tables that the library reads. -/
import Derived.Test.YtdnicbbandbdbaaDoorSB
import Derived.Lib.LaidTab
import Derived.Laws.AppendOwn
namespace Go.Proofs.YtdnicbbandbdbaaDoor
open Go.PB Go.RowKit
attribute [local irreducible] Go.Calls
theorem Ext.alloc' {w : World} {o : Obj} : Turn [] [(w.heap.size, o)] w (w.alloc o) := by
  have h := (St.nil w []).alloc o
  exact h.news (news := [(w.heap.size, o)]) (by exact List.Sublist.refl _)
def wdsT : List UInt8 := [45, 32, 101, 114, 114, 111, 114, 32, 103, 101, 110, 32, 100, 101, 108, 101, 116, 101, 32, 105, 115, 32, 98, 105, 110, 100, 98, 117, 102, 102, 101, 114, 32, 100, 97, 116, 97, 32, 115, 117, 98, 32, 98, 105, 110, 100, 116, 101, 120, 116, 117, 114, 101, 32, 105, 109, 97, 103, 101, 32, 112, 105, 101, 99, 101, 32, 112, 97, 114, 97, 109, 32, 109, 105, 112, 109, 97, 112, 32, 115, 104, 97, 100, 101, 114, 32, 108, 105, 110, 107, 32, 117, 115, 101, 32, 97, 116, 116, 114, 105, 98, 32, 117, 110, 105, 102, 111, 114, 109, 32, 115, 101, 116, 32, 103, 101, 116, 32, 112, 111, 105, 110, 116, 101, 114, 32, 97, 114, 114, 97, 121, 32, 99, 111, 110, 115, 116, 32, 118, 105, 101, 119, 32, 115, 116, 97, 116, 101, 32, 116, 101, 108, 108, 32, 118, 97, 108, 117, 101, 115, 32, 99, 108, 101, 97, 114, 32, 98, 105, 110, 100, 102, 114, 97, 109, 101, 32, 112, 108, 97, 110, 101, 115, 32, 100, 114, 97, 119, 32, 101, 108, 101, 109, 101, 110, 116, 115, 32, 114, 101, 97, 100]
set_option maxRecDepth 100000 in
theorem words_ok (w : World) (lb : Lb w) : Calls Tryd.prog 31 #[] w (Gives (fun b : Nat => .slice (some ⟨b, 0, none⟩) 33 33) (fun _ => True) w (fun _ => []) (fun b => [(b, row (strV wdL) 9)])) := by
  have hf : ∀ w, Lb w → Calls Tryd.prog 59 #[st wdsT] w
      (Gives (fun b : Nat => .slice (some ⟨b, 0, none⟩) 33 33) (fun _ => True) w (fun _ => []) (fun b => [(b, row (strV wdL) 9)])) := fun w h => by
    have e : Lib.fields wdsT = wdL := by decide +kernel
    have hc := Tryd.strings_Fields ⟨wdsT.toArray⟩ w (by decide +kernel) (fun j b hb => by
      have hall : ∀ b ∈ wdsT, b.toNat < 128 := by decide +kernel
      exact hall b (List.mem_of_getElem? hb)) h.sp
    refine hc.mono ?_
    rintro e1 w' ⟨rfl, rfl⟩
    refine ⟨w.heap.size, trivial, ?_, ?_⟩
    · rw [e]; rfl
    · rw [e]; exact Ext.alloc'
  refine calls_of_W (vs := []) Tryd.func31 rfl Tryd.ntmps31 (Nat.le_of_ble_eq_true rfl) (St.nil w []) ?_
  simp only [argL]
  repeat' (first | (apply gL; first | (apply Wl.ev rfl rfl; (focus (first | exact ev_assign rfl))) | ((show Wl _ _ _ _ _ _ _ (⟨_, .call ⟨.value (.func 59), _, _⟩, _, _, _, _⟩ :: _) _ _); refine wl_callX rfl rfl has59 rfl (fun w hs => hf w (lb.st hs Low.nil)) ?_; rintro b -; try simp only [ents, List.map_cons, List.map_nil, List.cons_append, List.nil_append]) | apply Wl.nil) | (apply gQ; first | (apply Wq.ev rfl rfl; (focus (first | exact ev_assign rfl)))) | ((show W _ _ _ _ _ _ _ _ _); first | apply W.seq | apply W.region | (refine W.ret1 rfl rfl ?_; intro w hs)))
  exact ret_new hs b trivial rfl (by exact List.Sublist.refl _)
set_option maxRecDepth 100000 in
theorem word_ok (op : Int) (w : World) (lb : Lb w) : Calls Tryd.prog 14 #[.int .i64 op] w (Give (st (wdS op)) w) := by
  refine give_of_W (vs := [.int .i64 op]) Tryd.func14 rfl Tryd.ntmps14 (Nat.le_of_ble_eq_true rfl) (St.nil w _) ?_
  simp only [argL]
  by_cases hop : 1 ≤ op ∧ op ≤ 32
  · have hl : wdL.length = 33 := by decide
    have hg : (strV wdL)[op.toNat]? = some (st (wdS op)) := by
      rw [strV_get (by omega)]
      unfold wdS
      rw [if_pos hop]
    repeat' (first | (apply gL; first | (apply Wl.ev rfl rfl; (focus (first | exact ev_move rfl | (apply gLoa; first | exact ev_load (agT rfl) rfl (by repeat (first | exact List.Mem.head _ | apply List.Mem.tail)) (show (strV wdL)[_]? = some (st (wdS op)) from by rw [show (0 + op.toNat * 1) = op.toNat by omega]; exact hg)) | exact ev_assign rfl | exact ev_pickF rfl rfl | (apply gBin; first | exact ev_lti rfl rfl | exact ev_gei rfl rfl) | (apply gCal; first | exact ev_len_slice (slT rfl) rfl) | (apply gIxA; first | exact ev_indexAddr (slT rfl) (szT rfl) rfl rfl (by omega))))) | ((show Wl _ _ _ _ _ _ _ (⟨_, .call ⟨.value (.func 31), _, _⟩, _, _, _, _⟩ :: _) _ _); refine wl_callX rfl rfl has31 rfl (fun w hs => words_ok w (lb.st hs Low.nil)) ?_; rintro b -; try simp only [ents, List.map_cons, List.map_nil, List.cons_append, List.nil_append]) | apply Wl.nil | ((fail_if_success (apply Wl.chk rfl)); refine Wl.split rfl rfl ?_ ?_ <;> (intro h; try (exfalso; first | contradiction | omega | exact h rfl | exact h ⟨rfl, rfl⟩ | (simp_all; done))))) | (apply gQ; first | (apply Wq.ev rfl rfl; (focus (first | exact ev_move rfl | (apply gLoa; first | exact ev_load (agT rfl) rfl (by repeat (first | exact List.Mem.head _ | apply List.Mem.tail)) (show (strV wdL)[_]? = some (st (wdS op)) from by rw [show (0 + op.toNat * 1) = op.toNat by omega]; exact hg)) | exact ev_assign rfl | exact ev_pickF rfl rfl | (apply gBin; first | exact ev_lti rfl rfl | exact ev_gei rfl rfl) | (apply gCal; first | exact ev_len_slice (slT rfl) rfl) | (apply gIxA; first | exact ev_indexAddr (slT rfl) (szT rfl) rfl rfl (by omega)))))) | ((show W _ _ _ _ _ _ _ _ _); first | apply W.seq | apply W.region | apply W.skip | (refine W.cond rfl ?_ ?_ <;> (intro h; try (exfalso; first | contradiction | omega | exact h rfl | exact h ⟨rfl, rfl⟩ | (simp_all; done)))) | (refine W.ret1 rfl rfl ?_; intro w hs)))
    all_goals first | exact ret_eq hs rfl | (exfalso; omega)
  · have e : wdS op = [] := by unfold wdS; rw [if_neg hop]
    rw [e]
    repeat' (first | (apply gL; first | (apply Wl.ev rfl rfl; (focus (first | exact ev_move rfl | exact ev_assign rfl | (apply gPic; first | exact ev_pickT rfl rfl | exact ev_pickF rfl rfl) | (apply gBin; first | exact ev_lti rfl rfl | exact ev_gei rfl rfl) | (apply gCal; first | exact ev_len_slice (slT rfl) rfl)))) | ((show Wl _ _ _ _ _ _ _ (⟨_, .call ⟨.value (.func 31), _, _⟩, _, _, _, _⟩ :: _) _ _); refine wl_callX rfl rfl has31 rfl (fun w hs => words_ok w (lb.st hs Low.nil)) ?_; rintro b -; try simp only [ents, List.map_cons, List.map_nil, List.cons_append, List.nil_append]) | apply Wl.nil | (refine Wl.skip rfl rfl ?_) | ((fail_if_success (apply Wl.chk rfl)); refine Wl.split rfl rfl ?_ ?_ <;> (intro h; try (exfalso; first | contradiction | omega | exact h rfl | exact h ⟨rfl, rfl⟩ | (simp_all; done))))) | (apply gQ; first | (apply Wq.ev rfl rfl; (focus (first | exact ev_move rfl | exact ev_assign rfl | (apply gPic; first | exact ev_pickT rfl rfl | exact ev_pickF rfl rfl) | (apply gBin; first | exact ev_lti rfl rfl | exact ev_gei rfl rfl) | (apply gCal; first | exact ev_len_slice (slT rfl) rfl))))) | ((show W _ _ _ _ _ _ _ _ _); first | apply W.seq | apply W.region | (refine W.condT rfl ?_) | (refine W.cond rfl ?_ ?_ <;> (intro h; try (exfalso; first | contradiction | omega | exact h rfl | exact h ⟨rfl, rfl⟩ | (simp_all; done)))) | (refine W.ret1 rfl rfl ?_; intro w hs)))
    all_goals first | exact ret_eq hs rfl | (exfalso; omega)
theorem wdS_nil (op : Int) : wdS op = [] ↔ ¬(1 ≤ op ∧ op ≤ 32) := by
  constructor
  · intro h hop
    exact (wd_bytes _ (wdS_mem hop)).2.2.2 h
  · intro h
    unfold wdS
    rw [if_neg h]
set_option maxRecDepth 100000 in
theorem wrong_ok {M : List Nat} {w0 w : World} {R : List Ent} {y : Cv} (hst : St M w0 w R) (hv : CvOk R y) (hi : y.c.is.length ≤ 1000000) (hb : y.c.bs.length ≤ 1000000) (ht : y.c.tx.length ≤ 1000000) (lb : Lb w) :
    Calls Tryd.prog 47 #[cvV y] w (Give (.bool (!decide (okC y.c))) w) := by
  have hv' := hv.ro
  obtain ⟨⟨op, is, bs, tx⟩, iv, bv⟩ := y
  dsimp only at hi hb ht
  obtain ⟨p1, c1, rfl⟩ : ∃ p c, iv = .slice p is.length c := hv.1.len
  obtain ⟨p2, c2, rfl⟩ : ∃ p c, bv = .slice p bs.length c := hv.2.len
  refine give_of_W (vs := [cvV ⟨⟨op, is, bs, tx⟩, .slice p1 is.length c1, .slice p2 bs.length c2⟩]) Tryd.func47 rfl Tryd.ntmps47 (Nat.le_of_ble_eq_true rfl) hst.reads ?_
  simp only [argL]
  obtain ⟨any, hany⟩ : ∃ any, is.any (fun n => !decide (inMost n)) = any := ⟨_, rfl⟩
  have hcf : ∀ {M w0 w} {q : Ent}, St M w0 w (q :: ro R) → Calls Tryd.prog 65 #[.slice p1 is.length c1, fnv 64] w (Give (.bool any) w) := fun {M w0 w q} hs => by
    rw [← hany]
    exact containsFuncI_ok hs (hv'.1.mono fun p hp => List.Mem.tail _ hp) (by omega) has64 wide_ok
  have hwd : decide (wdS op = []) = !decide (1 ≤ op ∧ op ≤ 32) := by
    rw [← decide_not, decide_eq_decide]
    exact wdS_nil op
  have hmost : any = false ↔ ∀ n ∈ is, inMost n := by
    rw [← hany]
    simp
  repeat' (first | (apply gL; first | (apply Wl.ev rfl rfl; (focus (first | exact ev_move rfl | (apply gLoa; first | exact ev_load (agT rfl) rfl (by repeat (first | exact List.Mem.head _ | apply List.Mem.tail)) rfl) | (apply gFie; first | exact ev_fieldAddr0 (fldT rfl) rfl) | exact ev_assign rfl | (apply gPic; first | exact ev_pickT rfl rfl | exact ev_pickF rfl rfl) | (apply gBin; first | exact ev_eqs rfl rfl | exact ev_gti rfl rfl) | (apply gCal; first | exact ev_len_slice (slT rfl) rfl | exact ev_len_string (strT rfl) rfl)))) | ((show Wl _ _ _ _ _ _ _ (⟨_, .call ⟨.value (.func 14), _, _⟩, _, _, _, _⟩ :: _) _ _); refine wl_call0 rfl rfl has14 rfl (fun w hs => word_ok op w (lb.st hs Low.nil)) ?_) | ((show Wl _ _ _ _ _ _ _ (⟨_, .call ⟨.value (.func 65), _, _⟩, _, _, _, _⟩ :: _) _ _); refine wl_call0 rfl rfl has65 rfl (fun w hs => hcf hs) ?_) | apply Wl.nil | (refine Wl.skip rfl rfl ?_) | (refine wl_box rfl rfl rfl rfl ?_; intro b) | ((fail_if_success (apply Wl.chk rfl)); refine Wl.split rfl rfl ?_ ?_ <;> (intro h; try (exfalso; first | contradiction | omega | exact h rfl | exact h ⟨rfl, rfl⟩ | (simp_all; done))))) | (apply gQ; first | (apply Wq.ev rfl rfl; (focus (first | exact ev_move rfl | (apply gLoa; first | exact ev_load (agT rfl) rfl (by repeat (first | exact List.Mem.head _ | apply List.Mem.tail)) rfl) | (apply gFie; first | exact ev_fieldAddr0 (fldT rfl) rfl) | exact ev_assign rfl | (apply gPic; first | exact ev_pickT rfl rfl | exact ev_pickF rfl rfl) | (apply gBin; first | exact ev_eqs rfl rfl | exact ev_gti rfl rfl) | (apply gCal; first | exact ev_len_slice (slT rfl) rfl | exact ev_len_string (strT rfl) rfl))))) | ((show W _ _ _ _ _ _ _ _ _); first | apply W.seq | apply W.region | (refine W.ret1 rfl rfl ?_; intro w hs)))
  all_goals (refine ret_eq hs (congrArg Value.bool ?_))
  all_goals
    have hok : decide (okC ⟨op, is, bs, tx⟩) = decide (¬wdS op = [] ∧ is.length ≤ 24 ∧ bs.length ≤ 8192 ∧ tx.length ≤ 8192 ∧ any = false) := decide_eq_decide.2 (by
      rw [hmost, wdS_nil, Decidable.not_not]
      exact Iff.rfl)
    show _ = !decide (okC ⟨op, is, bs, tx⟩)
    rw [hok]
    try dsimp only at *
  all_goals first
    | (symm; rw [Bool.not_eq_true', decide_eq_false_iff_not]; rintro ⟨a1, a2, a3, a4, a5⟩; first | contradiction | omega)
    | (cases any
       · symm; rw [Bool.not_eq_false', decide_eq_true_eq]; exact ⟨by assumption, by omega, by omega, by omega, rfl⟩
       · symm; rw [Bool.not_eq_true', decide_eq_false_iff_not]; rintro ⟨a1, a2, a3, a4, a5⟩; cases a5)
set_option maxRecDepth 100000 in
theorem check_ok {M : List Nat} {w0 w : World} {R : List Ent} {sw sh : Int} {cv : Value} {l : List Cv} (hst : St M w0 w R) (hv : RdC R cv l) (hl : l.length ≤ 1000000) (hz : ∀ y ∈ l, y.c.is.length ≤ 1000000 ∧ y.c.bs.length ≤ 1000000 ∧ y.c.tx.length ≤ 1000000) (lb : Lb w) :
    Calls Tryd.prog 23 #[scV sw sh cv] w (Give (.int .i64 (if okS ⟨sw, sh, clsOf l⟩ then 0 else 2)) w) := by
  have hv' := hv.ro
  obtain ⟨p1, c1, rfl⟩ := hv.1.len
  refine give_of_W (vs := [scV sw sh (.slice p1 l.length c1)]) Tryd.func23 rfl Tryd.ntmps23 (Nat.le_of_ble_eq_true rfl) hst.reads ?_
  simp only [argL]
  obtain ⟨any, hany⟩ : ∃ any, l.any (fun y => !decide (okC y.c)) = any := ⟨_, rfl⟩
  have hcf : ∀ {M w0 w} {q : Ent}, St M w0 w (q :: ro R) → Lb w → Calls Tryd.prog 46 #[.slice p1 l.length c1, fnv 47] w (Give (.bool any) w) := fun {M w0 w q} hs' hlb => by
    rw [← hany]
    have hv2 : RdC (q :: ro R) (.slice p1 l.length c1) l := hv'.mono fun p hp => List.Mem.tail _ hp
    refine containsFuncC_ok hs' hv2 hl has47 hlb fun y hy M w0 w lb2 hst2 => ?_
    obtain ⟨a1, a2, a3⟩ := hz y hy
    exact wrong_ok hst2 (hv2.ro.ro.2 y hy) a1 a2 a3 lb2
  have hmost : any = false ↔ ∀ x ∈ clsOf l, okC x := by
    rw [← hany]
    simp
  have hok : (if okS ⟨sw, sh, clsOf l⟩ then (0 : Int) else 2) = if sideP sw ∧ sideP sh ∧ l.length ≤ 200 ∧ any = false then 0 else 2 := by
    have : okS ⟨sw, sh, clsOf l⟩ ↔ sideP sw ∧ sideP sh ∧ l.length ≤ 200 ∧ any = false := by
      rw [hmost]
      show sideP sw ∧ sideP sh ∧ (clsOf l).length ≤ 200 ∧ _ ↔ _
      rw [List.length_map]
    by_cases h : okS ⟨sw, sh, clsOf l⟩
    · rw [if_pos h, if_pos (this.1 h)]
    · rw [if_neg h, if_neg fun e => h (this.2 e)]
  rw [hok]
  repeat' (first | (apply gL; first | (apply Wl.ev rfl rfl; (focus (first | exact ev_move rfl | (apply gLoa; first | exact ev_load (agT rfl) rfl (by repeat (first | exact List.Mem.head _ | apply List.Mem.tail)) rfl) | (apply gFie; first | exact ev_fieldAddr0 (fldT rfl) rfl) | exact ev_assign rfl | (apply gPic; first | exact ev_pickT rfl rfl | exact ev_pickF rfl rfl) | exact ev_gti rfl rfl | exact ev_notD rfl | (apply gCal; first | exact ev_len_slice (slT rfl) rfl)))) | ((show Wl _ _ _ _ _ _ _ (⟨_, .call ⟨.value (.func 45), _, _⟩, _, _, _, _⟩ :: _) _ _); refine wl_call0 rfl rfl has45 rfl (fun w _ => side_ok _ w) ?_) | ((show Wl _ _ _ _ _ _ _ (⟨_, .call ⟨.value (.func 46), _, _⟩, _, _, _, _⟩ :: _) _ _); refine wl_call0 rfl rfl has46 rfl (fun w hs => hcf hs (lb.st hs Low.nil)) ?_) | apply Wl.nil | (refine Wl.skip rfl rfl ?_) | (refine wl_box rfl rfl rfl rfl ?_; intro b) | ((fail_if_success (apply Wl.chk rfl)); refine Wl.split rfl rfl ?_ ?_ <;> (intro h; try (exfalso; first | contradiction | omega | exact h rfl | exact h ⟨rfl, rfl⟩ | (simp_all; done))))) | (apply gQ; first | (apply Wq.ev rfl rfl; (focus (first | exact ev_move rfl | (apply gLoa; first | exact ev_load (agT rfl) rfl (by repeat (first | exact List.Mem.head _ | apply List.Mem.tail)) rfl) | (apply gFie; first | exact ev_fieldAddr0 (fldT rfl) rfl) | exact ev_assign rfl | (apply gPic; first | exact ev_pickT rfl rfl | exact ev_pickF rfl rfl) | exact ev_gti rfl rfl | exact ev_notD rfl | (apply gCal; first | exact ev_len_slice (slT rfl) rfl))))) | ((show W _ _ _ _ _ _ _ _ _); first | apply W.seq | apply W.region | apply W.skip | (refine W.condT rfl ?_) | (refine W.condB rfl ?_ ?_ <;> (intro h; try (exfalso; first | contradiction | (simp_all; done)))) | (refine W.ret1 rfl rfl ?_; intro w hs)))
  all_goals (refine ret_eq hs (congrArg (Value.int IntKind.i64) ?_))
  all_goals first
    | (rw [if_neg]; rintro ⟨a1, a2, a3, a4⟩; first | contradiction | omega)
    | (cases any
       · first | (rw [if_pos]; exact ⟨Decidable.of_not_not (by assumption), Decidable.of_not_not (by assumption), by omega, rfl⟩) | contradiction
       · first | (rw [if_neg]; rintro ⟨a1, a2, a3, a4⟩; cases a4) | contradiction)
end Go.Proofs.YtdnicbbandbdbaaDoor
