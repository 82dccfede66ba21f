/- Walks: what a kid may be; whether a word is a name. No condition. -/
import Derived.Test.YtbinaeemcidicaaGreatDoorZPD
import Derived.Test.YtbinaeemcidicaaGreatDoorZYJ
import Derived.Test.YtbinaeemcidicaaGreatDoorZQG
import Derived.Test.YtbinaeemcidicaaGreatDoorZEQ
import Derived.Test.YtbinaeemcidicaaGreatDoorZEN
import Derived.Lib.Builder
import Derived.Lib.UnsafeStr
import Derived.Laws.Externs
import Derived.Laws.Pointers
set_option maxRecDepth 100000
set_option maxHeartbeats 16000000
namespace Go.Proofs.YtbinaeemcidicaaGreatDoor
open Go.PB Go.RowKit
attribute [local irreducible] Go.Calls
theorem fits_ok {q : Nat} (hq : q ≤ 6) (kd : Int) (w : World) : Calls Tryz.prog 73 #[.int .i64 (q : Nat), .int .i64 kd] w (Give (.bool (fitsK q kd)) w) := by
 refine give_of_W (vs := [.int .i64 (q : Nat), .int .i64 kd]) Tryz.func73 rfl Tryz.ntmps73 (Nat.le_of_ble_eq_true rfl) (St.nil w _) ?_
 simp only [argL]
 have h7 : q = 0 ∨ q = 1 ∨ q = 2 ∨ q = 3 ∨ q = 4 ∨ q = 5 ∨ q = 6 := by omega
 rcases h7 with rfl | rfl | rfl | rfl | rfl | rfl | rfl <;> unfold fitsK
 all_goals repeat' (first | (apply gL; first | (apply Wl.ev rfl rfl; exact Zev) | apply Wl.nil | (refine Zbr ?_) | ((fail_if_success (apply Wl.chk rfl)); refine Wl.split rfl rfl ?_ ?_ <;> (intro h; try exact Za))) | (apply gQ; first | (apply Wq.ev rfl rfl; exact Zev)) | (apply lW; first | apply W.seq | apply W.region | apply W.block | apply W.blk | apply W.skip | (refine Zbk ?_) | (refine Zbg ?_) | (refine Zba ?_; intro w hs)))
 all_goals first | exact ret_eq hs rfl | contradiction | exact Zy | (refine ret_eq hs (congrArg Value.bool (Bool.eq_iff_iff.2 ?_)); (simp <;> omega))
theorem name_bytes {w : List UInt8} : wordB w = true ↔ w ≠ [] ∧ w.length ≤ 32 ∧ ¬(48 ≤ (w.getD 0 0).toNat ∧ (w.getD 0 0).toNat ≤ 57) ∧ ∀ x ∈ w, woB x = true := by
 unfold wordB
 cases w with
 | nil => simp
 | cons a r =>
  have ha : (a :: r).headD 0 = a := rfl
  have hg : (a :: r).getD 0 0 = a := rfl
  rw [ha, hg]
  simp only [List.isEmpty_cons, Bool.not_false, Bool.true_and, Bool.and_eq_true, decide_eq_true_eq, List.all_eq_true]
  constructor
  ·rintro ⟨⟨h1, h2⟩, h3⟩
   exact ⟨by simp, h1, fun h => by have := leB_iff.1 h2; omega, h3⟩
  ·rintro ⟨_, h1, h2, h3⟩
   refine ⟨⟨h1, ?_⟩, h3⟩
   have h4 := h3 a (List.Mem.head _)
   unfold woB at h4
   cases hl : leB a with
   | true => rfl
   | false =>
    rw [hl] at h4
    exact absurd (dgB_iff.1 (by simpa using h4)) h2
theorem name_ok (s : List UInt8) (w : World) : Calls Tryz.prog 108 #[st s] w (Give (.bool (namB s)) w) := by
 refine give_of_W (vs := [st s]) Tryz.func108 rfl Tryz.ntmps108 (Nat.le_of_ble_eq_true rfl) (St.nil w _) ?_
 simp only [argL]
 have hr : ∀ w, Calls Tryz.prog 91 #[st s] w (Give (.bool (isRes s)) w) := resv_ok s
 have hn : namB s = (wordB s && !isRes s) := rfl
 obtain ⟨r, hrr⟩ : ∃ q, isRes s = q := ⟨_, rfl⟩
 rw [hrr] at hr hn
 rw [hn]
 clear hn hrr
 by_cases h0 : s = []
 ·subst h0
  repeat' (first | (apply gL; first | (apply Wl.ev rfl rfl; exact Zev) | apply Wl.nil | (refine Zbr ?_)) | (apply gQ; first | (apply Wq.ev rfl rfl; exact Zev)) | (apply lW; first | apply W.seq | apply W.region | (refine Zbk ?_) | (refine Zba ?_; intro w hs)))
  all_goals first | exact ret_eq hs rfl | exact Zdq | contradiction
 by_cases h1 : s.length ≤ 32
 rotate_left
 ·have hf : wordB s = false := Bool.eq_false_iff.2 fun h => h1 (name_bytes.1 h).2.1
  rw [hf]
  repeat' (first | (apply gL; first | (apply Wl.ev rfl rfl; exact Zev) | apply Wl.nil | (refine Zbr ?_) | ((fail_if_success (apply Wl.chk rfl)); refine Wl.split rfl rfl ?_ ?_ <;> (intro h; try exact Za))) | (apply gQ; first | (apply Wq.ev rfl rfl; exact Zev)) | (apply lW; first | apply W.seq | apply W.region | (refine Zbk ?_) | (refine Zba ?_; intro w hs)))
  all_goals first | exact ret_eq hs rfl | contradiction | exact Zy
 cases r with
 | true =>
  rw [show (wordB s && !true) = false by simp]
  repeat' (first | (apply gL; first | (apply Wl.ev rfl rfl; exact Zev) | (refine lD 91 ?_; refine wl_call0 rfl rfl has91 rfl (fun w hs => hr w) ?_) | apply Wl.nil | (refine Zbr ?_) | ((fail_if_success (apply Wl.chk rfl)); refine Wl.split rfl rfl ?_ ?_ <;> (intro h; try exact Za))) | (apply gQ; first | (apply Wq.ev rfl rfl; exact Zev)) | (apply lW; first | apply W.seq | apply W.region | (refine Zbk ?_) | (refine Zba ?_; intro w hs)))
  all_goals first | exact ret_eq hs rfl | contradiction | exact Zy
 | false =>
 rw [show (wordB s && !false) = wordB s by simp]
 have hl0 : 0 < s.length := List.length_pos_iff.2 h0
 obtain ⟨c0, hc0⟩ : ∃ c, s.getD 0 0 = c := ⟨_, rfl⟩
 by_cases h2 : 48 ≤ c0.toNat ∧ c0.toNat ≤ 57
 ·have hf : wordB s = false := Bool.eq_false_iff.2 fun h => (name_bytes.1 h).2.2.1 (by rw [hc0]; exact h2)
  rw [hf]
  repeat' (first | (apply gL; first | (apply Wl.ev rfl rfl; exact Zcj) | (refine lD 91 ?_; refine wl_call0 rfl rfl has91 rfl (fun w hs => hr w) ?_) | apply Wl.nil | ((fail_if_success (apply Wl.chk rfl)); refine Wl.split rfl rfl ?_ ?_ <;> (intro h; try exact Za))) | (apply gQ; first | (apply Wq.ev rfl rfl; exact Zcj)) | (apply lW; first | apply W.seq | apply W.region | (refine Zz ?_ ?_ <;> (intro h; try exact Za)) | (refine Zba ?_; intro w hs)))
  all_goals first | exact ret_eq hs rfl | contradiction | exact Zy
 have hbs : ∀ x : UInt8, woB x = true ↔ (97 ≤ x.toNat ∧ x.toNat ≤ 122) ∨ (65 ≤ x.toNat ∧ x.toNat ≤ 90) ∨ x.toNat = 95 ∨ (48 ≤ x.toNat ∧ x.toNat ≤ 57) := fun x => by
  unfold woB
  rw [Bool.or_eq_true, leB_iff, dgB_iff]
  omega
 repeat' (first | (apply gL; first | (apply Wl.ev rfl rfl; exact Zcj) | (refine lD 91 ?_; refine wl_call0 rfl rfl has91 rfl (fun w hs => hr w) ?_) | apply Wl.nil | (refine Zbr ?_) | (refine Zhl ?_; intro b) | ((fail_if_success (apply Wl.chk rfl)); refine Wl.split rfl rfl ?_ ?_ <;> (intro h; try exact Za))) | (apply gQ; first | (apply Wq.ev rfl rfl; exact Zcj)) | (apply lW; first | apply W.seq | ((show W _ _ _ _ _ _ (.inl (.loop _) :: _) _ _); refine W.loop (X := Nat) (fun _ => [(0, st s), (27, .pointer (some ⟨b, 0, none⟩))]) (fun pos => [⟨b, true, sobj s pos⟩]) (fun pos => pos ≤ s.length ∧ ∀ y ∈ s.take pos, woB y = true) (fun pos => s.length - pos) 0 ⟨Nat.zero_le _, by simp⟩ Zn Ze ?_) | apply W.region | apply W.block | apply W.skip | (refine Zbg ?_) | (refine Zz ?_ ?_ <;> (intro h; try exact Za))))
 all_goals first | contradiction | exact Zy | skip
 all_goals (
  rintro pos ⟨hpos, hpre⟩
  by_cases hlt : pos < s.length
  ·obtain ⟨x, hx⟩ : ∃ x, s.getD pos 0 = x := ⟨_, rfl⟩
   by_cases hw : woB x = true
   ·have hn := (hbs x).1 hw
    have hdec := decode_low hlt (by rw [hx]; omega)
    rw [hx] at hdec
    have hst : ∀ y ∈ s.take (pos + 1), woB y = true := take_succ_all hlt hpre (by rw [← hx] at hw; simpa [List.getD, hlt] using hw)
    repeat' (first | (apply gL; first | (apply Wl.ev rfl rfl; exact Zev) | (refine Zhd ?_) | apply Wl.nil | (refine Zbr ?_) | ((fail_if_success (apply Wl.chk rfl)); refine Wl.split rfl rfl ?_ ?_ <;> (intro h; try exact Za))) | (apply gQ; first | (apply Wq.ev rfl rfl; exact Zev)) | (apply lW; first | apply W.seq | apply W.region | apply W.block | apply W.blk | apply W.skip | (refine Zbk ?_) | (refine Zbg ?_) | (refine Zz ?_ ?_ <;> (intro h; try exact Za))))
    all_goals first | exact W.again (pos + 1) ⟨by omega, hst⟩ (show s.length - (pos + 1) < s.length - pos by omega) Zn (List.Sublist.refl _) | contradiction | exact Zy
   ·have hn := fun h => hw ((hbs x).2 h)
    have hf : wordB s = false := Bool.eq_false_iff.2 fun h => hw ((name_bytes.1 h).2.2.2 x (by rw [← hx]; simp [List.getD, hlt]))
    rw [hf]
    have hdec : ∃ c wd, Utf8.decode ⟨s.toArray⟩ pos = (c, wd) ∧ ¬((97 ≤ c ∧ c ≤ 122) ∨ (65 ≤ c ∧ c ≤ 90) ∨ c = 95 ∨ (48 ≤ c ∧ c ≤ 57)) := by
     by_cases h8 : (s.getD pos 0).toNat < 128
     ·exact ⟨_, _, decode_low hlt h8, by rw [hx]; exact hn⟩
     ·have := decode_up hlt Zf7
      exact ⟨(Utf8.decode ⟨s.toArray⟩ pos).1, (Utf8.decode ⟨s.toArray⟩ pos).2, rfl, by omega⟩
    obtain ⟨c, wd, hdec, hcb⟩ := hdec
    repeat' (first | (apply gL; first | (apply Wl.ev rfl rfl; exact Zev) | (refine wl_nextStr' rfl rfl rfl hlt hdec Zf ?_) | apply Wl.nil | (refine Zbr ?_) | ((fail_if_success (apply Wl.chk rfl)); refine Wl.split rfl rfl ?_ ?_ <;> (intro h; try exact Za))) | (apply gQ; first | (apply Wq.ev rfl rfl; exact Zev)) | (apply lW; first | apply W.seq | apply W.region | apply W.block | apply W.skip | (refine Zbk ?_) | (refine Zz ?_ ?_ <;> (intro h; try exact Za)) | (refine Zba ?_; intro w hs)))
    all_goals first | exact ret_eq hs rfl | contradiction | exact Zy
  ·have ht : wordB s = true := name_bytes.2 ⟨h0, h1, by rw [hc0]; exact h2, by rwa [List.take_of_length_le Zf7] at hpre⟩
   rw [ht]
   repeat' (first | (apply gL; first | (apply Wl.ev rfl rfl; exact Zev) | apply Wl.nil) | (apply gQ; first | (apply Wq.ev rfl rfl; exact Zev)) | (apply lW; first | apply W.seq | apply W.region | (refine Zcm ?_) | (refine Zbg ?_) | (refine Zba ?_; intro w hs)))
   all_goals first | exact ret_eq hs rfl | contradiction | exact Zy | fail)
end Go.Proofs.YtbinaeemcidicaaGreatDoor
namespace Go.PB
open Go.RowKit Go.Lib
section
variable {P : Program} {ops : Array Oper} {Q : Exit → Act → World → Prop} {M : List Nat} {w0 w w' : World} {n : Nat} {D : List Deferred} {L : List (Nat × Value)} {H : List Ent} {rest : List Oper}
 {d : Tmp} {oty t t' : TypeId} {pos : String} {after : Array Edge} {g : Option (Nat × Bool)} {x y : Operand}
theorem ev_ptrNil {q : Option Addr} (h : P.underlying t = some (.pointer (P.pointee t))) (hx : evo L x = some (.pointer q)) (hy : evo L y = some (.pointer none)) : Ev P M w0 n D L H (.binOp .eql t x y t') oty (.bool q.isNone) := by
 unfold Ev
 intro a w hf _ dst pos after g
 have hg : (eqGuard .eql t x y (.pointer q) (.pointer none)).run P w = .ok () w := by
  unfold eqGuard
  simp
 simp [execOp, hf.eval hx, hf.eval hy, hg, run_eql_pointer_nil w t q h]
theorem ev_ptrSame {a0 : Addr} {te : TypeId} {sz : Nat} (h : P.underlying t = some (.pointer te)) (hz : Sz P te sz) (hx : evo L x = some (.pointer (some a0))) (hy : evo L y = some (.pointer (some a0))) : Ev P M w0 n D L H (.binOp .neq t x y t') oty (.bool false) := by
 unfold Ev
 intro a w hf _ dst pos after g
 obtain ⟨j, hj, _⟩ := Option.map_eq_some_iff.1 hz
 have hg : (eqGuard .neq t x y (.pointer (some a0)) (.pointer (some a0))).run P w = .ok () w := by
  unfold eqGuard
  simp
 simp [execOp, hf.eval hx, hf.eval hy, hg, run_neq_ptr_same w a0 h hj]
theorem ev_toUnsafe {b off sz : Nat} {e : TypeId} {wr : Bool} {c : Array Value} {ty : TypeId} {fr : Nat × Nat} (hs : P.underlying t = some (.pointer e)) (hd : P.underlying t' = some .unsafePointer) (hz : Sz P e (sz + 1)) (hm : (⟨b, wr, .cells c ty fr⟩ : Ent) ∈ H) (hc : off < c.size) (hx : evo L x = some (.pointer (some ⟨b, off, none⟩))) :
  Ev P M w0 n D L H (.convert t t' x) oty (.pointer (some ⟨b, off, none⟩)) := by
 unfold Ev
 intro a w hf hst dst pos after g
 obtain ⟨j, hj, hjs⟩ := Option.map_eq_some_iff.1 hz
 have hb := hst.get hm
 have := run_to_unsafe w ⟨b, off, none⟩ hs hd hj (by rw [hjs]; omega) (e := ty) (cells := c.size) (by simp [World.shape?, hb]) hc
 simp [execOp, hf.eval hx, this]
theorem ev_fromUnsafe {b off sz : Nat} {u : TypeId} {wr : Bool} {c : Array Value} {ty : TypeId} {fr : Nat × Nat} (hs : P.underlying t = some .unsafePointer) (hd : P.underlying t' = some (.pointer u)) (hz : Sz P u sz) (hm : (⟨b, wr, .cells c ty fr⟩ : Ent) ∈ H) (hl : liesAt P P.depth ty (c.size / P.cellsOf ty) off u 1 = true) (hx : evo L x = some (.pointer (some ⟨b, off, none⟩))) :
  Ev P M w0 n D L H (.convert t t' x) oty (.pointer (some ⟨b, off, none⟩)) := by
 unfold Ev
 intro a w hf hst dst pos after g
 obtain ⟨j, hj, hjs⟩ := Option.map_eq_some_iff.1 hz
 have hb := hst.get hm
 have := run_from_unsafe w ⟨b, off, none⟩ hs hd hj (e := ty) (cells := c.size) (by simp [World.shape?, hb]) hl
 simp [execOp, hf.eval hx, this]
theorem ev_extern {f : FuncId} {fn : Func} {e : Array Value → Sem Value} {v : Value} {ats : Array TypeId} (hf0 : P.funcs[f]? = some fn) (hname : (fn.name == "runtime.NumGoroutine") = false) (hb : fn.body.isNone = true) (hn : Extern.findNext fn = none) (he : Extern.find fn = some e) (hr : ∀ w, (e #[v]).run P w = .ok v w) (hx : evo L x = some v) :
  Ev P M w0 n D L H (.call { callee := .value (.func f), args := #[x], argTypes := ats }) oty v := by
 unfold Ev
 intro a w hf _ dst pos after g
 have := run_callFunc_extern hf0 hname hb hn he #[v] w
 rw [hr] at this
 have e1 : a.eval (.func f) = .func (.func f) #[] #[] := rfl
 simp only [execOp, resolve, e1, Deferred.ofValue, Array.map]
 simp [invoke, hf.eval hx, this]
theorem ev_rowOf {p : Addr} {m c : Nat} {ats : Array TypeId} (hx : evo L x = some (.slice (some p) m c)) (hc : 0 < c) : Ev P M w0 n D L H (.call { callee := .builtin .unsafeSliceData, args := #[x], argTypes := ats }) oty (.pointer (some p)) := by
 unfold Ev
 intro a w hf _ dst pos after g
 have := run_unsafeSliceData_row (P := P) w ats oty p m c Zf7
 simp [execOp, resolve, invoke, builtin, hf.eval hx, this]
theorem ev_rowOf_nil {m c : Nat} {ats : Array TypeId} (hx : evo L x = some (.slice none m c)) : Ev P M w0 n D L H (.call { callee := .builtin .unsafeSliceData, args := #[x], argTypes := ats }) oty (.pointer none) := by
 unfold Ev
 intro a w hf _ dst pos after g
 have := run_unsafeSliceData_nil (P := P) w ats oty m c
 simp [execOp, resolve, invoke, builtin, hf.eval hx, this]
theorem ev_unsafeString_nil {p : Option Addr} (hx : evo L x = some (.pointer p)) (hy : evo L y = some (.int .i64 0)) : Ev P M w0 n D L H (.call { callee := .builtin .unsafeString, args := #[x, y], argTypes := #[t, t'] }) oty (.string ⟨#[]⟩) := by
 unfold Ev
 intro a w hf _ dst pos after g
 have := run_unsafeString_none (P := P) w t t' oty p
 simp [execOp, resolve, invoke, builtin, hf.eval hx, hf.eval hy, this]
 rfl
theorem wl_unsafeString {e : TypeId} {gb : Nat} {c : Array Value} {l : List UInt8} {H' : List Ent} (hg : gdv ops L g = some true) (hd : Nat.blt d n = true) (hp : P.underlying t = some (.pointer e)) (hc : P.cellsOf e = 1)
  (hx : evo L x = some (.pointer (some ⟨gb, 0, none⟩))) (hy : evo L y = some (.int .i64 (l.length : Nat))) (h0 : l ≠ []) (h63 : l.length ≤ 9223372036854775807) (hcs : ∀ (j : Nat) v, (bytV l)[j]? = some v → c[j]? = some v)
  (hu : Upd H gb (.cells c e (0, 0)) (.cells c e (0, l.length)) H') (h : Wl P ops Q M w0 n D rest ((d, .string ⟨l.toArray⟩) :: L) H') :
  Wl P ops Q M w0 n D (⟨some d, .call { callee := .builtin .unsafeString, args := #[x, y], argTypes := #[t, t'] }, oty, pos, after, g⟩ :: rest) L H := by
 refine Wl.act hg hd (fun a w hf hst => ?_) h
 have hb := hst.get hu.mem
 have hcell : ∀ j x, l[j]? = some x → w.cell? ((⟨gb, 0, none⟩ : Addr).add j) = some (.int .u8 x.toNat) := fun j x hj => by
  rw [add_lit, Nat.zero_add, cell_cells hb]
  exact hcs j _ (by simp [bytV, hj])
 have hn : l.length ≤ c.size := by
  have h1 : l.length - 1 < l.length := by
   have := List.length_pos_iff.2 h0
   omega
  have := hcs (l.length - 1) (.int .u8 (l[l.length - 1].toNat : Int)) (by simp [bytV, h1])
  obtain ⟨h2, _⟩ := Array.getElem?_eq_some_iff.1 this
  omega
 have hr := run_unsafeString_row (P := P) w t t' oty e hp hc gb c.size (by simp [World.shape?, hb]) l h0 hn h63 hcell
 refine ⟨w.freeze ⟨gb, 0, none⟩ l.length, by simp [execOp, resolve, invoke, builtin, hf.eval hx, hf.eval hy, hr], ?_⟩
 have hl0 : l.length ≠ 0 := by simpa using h0
 refine hst.upd hu ?_ ?_
 ·unfold World.freeze
  rw [if_neg hl0]
  exact ⟨rfl, rfl, rfl, by simp, fun j _ hj => by
   have : gb ≠ j := fun e => hj (by rw [e])
   simp [Array.getElem?_modify, this]⟩
 ·unfold World.freeze
  rw [if_neg hl0]
  simp [Array.getElem?_modify, hb]
end
end Go.PB
namespace Go.Proofs.YtbinaeemcidicaaGreatDoor
open Go.PB Go.RowKit
attribute [local irreducible] Go.Calls
abbrev ptrB (pb : Nat) : Value := .pointer (some ⟨pb, 1, none⟩)
abbrev prW (lv p : Value) (n : Nat) (o : Ow) (la : List UInt8) : Obj := row [lv, p, ownV n o, st la] 55
theorem copyCheck_used {M : List Nat} {w0 w : World} {H : List Ent} {b : Nat} {lv u la : Value} (hst : St M w0 w H) (hm : (⟨b, true, row [lv, ptrB b, u, la] 55⟩ : Ent) ∈ H) :
  Calls Tryz.prog 100 #[ptrB b] w (GivesS (fun _ : Unit => .tuple #[]) (fun _ => True) M w0 (fun _ => H)) := by
 refine calls_of_W (vs := [ptrB b]) Tryz.func100 rfl Tryz.ntmps100 (Nat.le_of_ble_eq_true rfl) hst.fromHere ?_
 simp only [argL]
 repeat' (first | (apply gL; first | (apply Wl.ev rfl rfl; exact Ze1) | apply Wl.nil) | (apply gQ; first | (apply Wq.ev rfl rfl; exact Ze1)) | (apply lW; first | apply W.seq | apply W.region | apply W.skip | (refine Zbg ?_) | (refine Zdl ?_; intro w hs)))
 all_goals first | exact GivesS.of hst hs () trivial rfl (List.Sublist.refl _) | contradiction
theorem copyCheck_new {M : List Nat} {w0 w : World} {A : List Ent} {b : Nat} {lv u la : Value} (hst : St M w0 w (⟨b, true, row [lv, .pointer none, u, la] 55⟩ :: A)) :
  Calls Tryz.prog 100 #[ptrB b] w (GivesS (fun _ : Unit => .tuple #[]) (fun _ => True) M w0 (fun _ => ⟨b, true, row [lv, ptrB b, u, la] 55⟩ :: A)) := by
 refine calls_of_W (vs := [ptrB b]) Tryz.func100 rfl Tryz.ntmps100 (Nat.le_of_ble_eq_true rfl) hst.fromHere ?_
 simp only [argL]
 repeat' (first | (apply gL; first | (apply Wl.ev rfl rfl; exact Zi1) | apply Wl.nil | (refine Zf9 ?_; try simp only [List.set])) | (apply gQ; first | (apply Wq.ev rfl rfl; exact Zi1)) | (apply lW; first | apply W.seq | apply W.region | (refine Zbk ?_) | (refine Zdl ?_; intro w hs)))
 all_goals first | exact GivesS.of hst hs () trivial rfl (List.Sublist.refl _) | contradiction
theorem writeByte_ok {M : List Nat} {w0 w : World} {A : List Ent} {b n : Nat} {lv p : Value} {la : List UInt8} {o : Ow} {xs : List Value} (c : UInt8) (hp : p = .pointer none ∨ p = ptrB b) (hok : ownOk n 1 xs o) (hn : n ≤ 1000000000)
  (hst : St M w0 w (⟨b, true, prW lv p n o la⟩ :: (A ++ ownH 5 o))) :
  Calls Tryz.prog 64 #[ptrB b, .int .u8 (c.toNat : Int)] w (GivesS (fun _ : Ow => .nilIface) (fun o' => ownOk (n + 1) 1 (xs ++ [.int .u8 (c.toNat : Int)]) o') M w0 (fun o' => ⟨b, true, prW lv (ptrB b) (n + 1) o' la⟩ :: (A ++ ownH 5 o'))) := by
 refine calls_of_W (vs := [ptrB b, .int .u8 (c.toNat : Int)]) Tryz.func64 rfl Tryz.ntmps64 (Nat.le_of_ble_eq_true rfl) hst.fromHere ?_
 simp only [argL]
 rcases hp with rfl | rfl
 all_goals (
  repeat' (first | (apply gL; first | (apply Wl.ev rfl rfl; exact Zev) | (refine wl_store1 rfl rfl rfl (own_oneF _ _) (szT rfl) Zf Zbe ?_; try simp only [List.set]) | (refine lD 100 ?_; first | (refine wl_callS rfl rfl has100 rfl (fun w hs => copyCheck_used hs (List.Mem.head _)) ?_; rintro ⟨⟩ _) | (refine wl_callS rfl rfl has100 rfl (fun w hs => copyCheck_new hs) ?_; rintro ⟨⟩ _)) | (refine wl_append_own (m := n) (k := 1) (o := o) (xs := xs) (news := [.int .u8 (c.toNat : Int)]) rfl rfl (slT rfl) (szT rfl) (byT rfl) (zeroT rfl) rfl rfl rfl hok Zd rfl (fun j v h => by simpa using h) Zc0 Zf7 Zcu Zf7 Zbw ?_; intro o1 hok1) | apply Wl.nil | (apply wl_buildSlice rfl rfl (slT rfl) (szT rfl) (zeroT rfl) rfl Zf6 rfl; exact Zt; intro b)) | (apply gQ; first | (apply Wq.ev rfl rfl; exact Zev)) | (apply lW; first | apply W.seq | apply W.region | (refine Zba ?_; intro w hs)))
  all_goals first | exact GivesS.of hst hs o1 hok1 rfl Ze | contradiction | fail)
theorem writeString_ok {M : List Nat} {w0 w : World} {A : List Ent} {b n : Nat} {lv p : Value} {la : List UInt8} {o : Ow} {xs : List Value} (s : List UInt8) (h0 : 0 < s.length) (hsl : s.length ≤ 1000000000) (hp : p = .pointer none ∨ p = ptrB b) (hok : ownOk n 1 xs o) (hn : n ≤ 1000000000)
  (hst : St M w0 w (⟨b, true, prW lv p n o la⟩ :: (A ++ ownH 5 o))) :
  Calls Tryz.prog 65 #[ptrB b, st s] w (GivesS (fun _ : Ow => .tuple #[.int .i64 (s.length : Nat), .nilIface]) (fun o' => ownOk (n + s.length) 1 (xs ++ bytV s) o') M w0 (fun o' => ⟨b, true, prW lv (ptrB b) (n + s.length) o' la⟩ :: (A ++ ownH 5 o'))) := by
 refine calls_of_W (vs := [ptrB b, st s]) Tryz.func65 rfl Tryz.ntmps65 (Nat.le_of_ble_eq_true rfl) hst.fromHere ?_
 simp only [argL]
 rcases hp with rfl | rfl
 all_goals (
  repeat' (first | (apply gL; first | (apply Wl.ev rfl rfl; exact Zev) | (refine wl_store1 rfl rfl rfl (own_oneF _ _) (szT rfl) Zf Zbe ?_; try simp only [List.set]) | (refine lD 100 ?_; first | (refine wl_callS rfl rfl has100 rfl (fun w hs => copyCheck_used hs (List.Mem.head _)) ?_; rintro ⟨⟩ _) | (refine wl_callS rfl rfl has100 rfl (fun w hs => copyCheck_new hs) ?_; rintro ⟨⟩ _)) | (refine wl_appendStr (m := n) (o := o) (xs := xs) (l := s) rfl rfl (slT rfl) Zmi (szT rfl) (byT rfl) (zeroT rfl) rfl rfl hok h0 Zcu Zf7 Zbw ?_; intro o1 hok1) | apply Wl.nil) | (apply gQ; first | (apply Wq.ev rfl rfl; exact Zev)) | (apply lW; first | apply W.seq | apply W.region | (refine Zc1 ?_; intro w hs)))
  all_goals first | exact GivesS.of hst hs o1 hok1 rfl Ze | contradiction | fail)
theorem builder_ok {M : List Nat} {w0 w : World} {A : List Ent} {b : Nat} {lv p : Value} {la : List UInt8} {o : Ow} {l : List UInt8} (hok : ownOk l.length 1 (bytV l) o) (hl : l ≠ [] ∨ o = none) (hl63 : l.length ≤ 1000000000)
  (hst : St M w0 w (⟨b, true, prW lv p l.length o la⟩ :: (A ++ ownH 5 o))) :
  Calls Tryz.prog 18 #[ptrB b] w (GivesS (fun _ : Unit => st l) (fun _ => True) M w0 (fun _ => A)) := by
 refine calls_of_W (vs := [ptrB b]) Tryz.func18 rfl Tryz.ntmps18 (Nat.le_of_ble_eq_true rfl) hst.fromHere ?_
 simp only [argL]
 cases o with
 | none =>
  obtain ⟨h1, h2⟩ := hok
  obtain rfl : l = [] := List.eq_nil_of_length_eq_zero h1
  simp only [List.length_nil] at hst ⊢
  repeat' (first | (apply gL; first | (apply Wl.ev rfl rfl; exact Zfz) | apply Wl.nil) | (apply gQ; first | (apply Wq.ev rfl rfl; exact Zfz) | apply Wq.nil) | (apply lW; first | apply W.seq | (refine Zgf ?_) | apply W.region | (refine Zba ?_; intro w hs)))
  all_goals first | exact GivesS.of hst hs () trivial rfl (List.Sublist.cons _ (List.sublist_append_left _ _)) | contradiction
 | some o =>
  have h0 : l ≠ [] := by
   rcases hl with h | h
   ·exact h
   ·cases h
  obtain ⟨gb, cap, cur⟩ := o
  have hlp := List.length_pos_iff.2 h0
  have hcp : 0 < cap := by
   have := hok.1
   simp only at this
   omega
  have hcs : ∀ (j : Nat) v, (bytV l)[j]? = some v → cur[j]? = some v := fun j v h => own_get hok h
  repeat' (first | (apply gL; first | (apply Wl.ev rfl rfl; (focus (first | exact ev_rowOf rfl hcp | exact Zev))) | (refine wl_unsafeString (l := l) rfl rfl Zmi Zj rfl rfl h0 Zf7 hcs (show Upd (⟨b, true, prW lv p l.length (some (gb, cap, cur)) la⟩ :: (A ++ [⟨gb, true, .cells cur _ (0, 0)⟩])) gb _ _ (⟨b, true, prW lv p l.length (some (gb, cap, cur)) la⟩ :: (A ++ [⟨gb, true, .cells cur _ (0, l.length)⟩])) from ⟨⟨b, true, prW lv p l.length (some (gb, cap, cur)) la⟩ :: A, [], rfl, rfl⟩) ?_) | apply Wl.nil) | (apply gQ; first | (apply Wq.ev rfl rfl; (focus (first | exact ev_rowOf rfl hcp | exact Zev))) | ((show Wq _ _ (Qt _ _ _ _) _ _ _ _ [] _ _); apply Wq.tail)) | (apply lW; first | apply W.seq | ((show W _ _ _ _ _ _ (.inl (.region 1 _ true) :: _) _ _); refine W.regionT 10 mixed Zj rfl rfl ?_) | apply W.region | (refine Zba ?_; intro w hs)))
  all_goals first | exact GivesS.of hst hs () trivial rfl (List.Sublist.cons _ (List.sublist_append_left _ _)) | contradiction
end Go.Proofs.YtbinaeemcidicaaGreatDoor
namespace Go.Proofs.YtbinaeemcidicaaGreatDoor
open Go.PB Go.RowKit
attribute [local irreducible] Go.Calls
def sepB (la : List UInt8) : List UInt8 := if la = [] then [] else if la = [59] ∨ la = [123] ∨ la = [125] then [10] else [32]
abbrev PS := List UInt8 × List UInt8
def putS (s : PS) (t : List UInt8) : PS := (s.1 ++ (sepB s.2 ++ t), t)
def putsS (s : PS) (ts : List (List UInt8)) : PS := ts.foldl putS s
theorem putsS_app (s : PS) (a b : List (List UInt8)) : putsS s (a ++ b) = putsS (putsS s a) b := List.foldl_append
theorem putsS_nil (s : PS) : putsS s [] = s := rfl
theorem putsS_le (s : PS) : ∀ ts : List (List UInt8), s.1.length ≤ (putsS s ts).1.length
 | [] => Nat.le_refl _
 | t :: ts => by
  refine Nat.le_trans ?_ (putsS_le (putS s t) ts)
  show s.1.length ≤ (s.1 ++ (sepB s.2 ++ t)).length
  rw [List.length_append]
  omega
theorem le_puts {n : Nat} {s : PS} {ts : List (List UInt8)} (h : n ≤ s.1.length) : n ≤ (putsS s ts).1.length := Nat.le_trans h (putsS_le s ts)
theorem putsS_snoc {s : PS} {ts : List (List UInt8)} {j : Nat} (h : j < ts.length) : putsS s (ts.take (j + 1)) = putS (putsS s (ts.take j)) (ts.getD j []) := by
 rw [List.take_succ_eq_append_getElem h, putsS_app]
 simp [putsS, List.getD, h]
def pV (pb n : Nat) : Value := if n = 0 then .pointer none else ptrB pb
theorem pV_or (pb n : Nat) : pV pb n = .pointer none ∨ pV pb n = ptrB pb := by
 unfold pV
 split
 ·exact .inl rfl
 ·exact .inr rfl
abbrev prO (lv : Value) (pb : Nat) (s : PS) (o : Ow) : Obj := prW lv (pV pb s.1.length) s.1.length o s.2
abbrev prH (lv : Value) (pb : Nat) (s : PS) (o : Ow) (A : List Ent) : List Ent := ⟨pb, true, prO lv pb s o⟩ :: (A ++ ownH 5 o)
theorem prH_next {lv : Value} {pb k : Nat} {out la t : List UInt8} {o : Ow} {A : List Ent} {x : PS} (hx : x = putS (out, la) t) (ht : 0 < t.length) (hk : k = out.length + (sepB la).length + t.length) :
  prH lv pb x o A = ⟨pb, true, prW lv (ptrB pb) k o t⟩ :: (A ++ ownH 5 o) := by
 subst hx hk
 have e : (putS (out, la) t).1.length = out.length + (sepB la).length + t.length := by
  show (out ++ (sepB la ++ t)).length = _
  rw [List.length_append, List.length_append]
  omega
 show (⟨pb, true, prW lv (pV pb (putS (out, la) t).1.length) (putS (out, la) t).1.length o t⟩ : Ent) :: _ = _
 rw [e]
 unfold pV
 rw [if_neg Zf7]
theorem bytV_app (a b : List UInt8) : bytV (a ++ b) = bytV a ++ bytV b := by unfold bytV; rw [List.map_append]
theorem pput_ok {M : List Nat} {w0 w : World} {A : List Ent} {lv v : Value} {pb : Nat} {s : PS} {o : Ow} {ss : List (List UInt8)} (hst : St M w0 w (prH lv pb s o A)) (hv : RdX A v ss.length (strV ss)) (hok : ownOk s.1.length 1 (bytV s.1) o)
  (hne : ∀ t ∈ ss, 0 < t.length) (hb : (putsS s ss).1.length ≤ 1000000000) (hls : ss.length ≤ 1000000) :
  Calls Tryz.prog 33 #[ptr pb, v] w (GivesS (fun _ : Ow => .tuple #[]) (fun o' => ownOk (putsS s ss).1.length 1 (bytV (putsS s ss).1) o') M w0 (fun o' => prH lv pb (putsS s ss) o' A)) := by
 obtain ⟨q, c, rfl⟩ := hv.len
 refine calls_of_W (vs := [ptr pb, .slice q ss.length c]) Tryz.func33 rfl Tryz.ntmps33 (Nat.le_of_ble_eq_true rfl) hst.fromHere ?_
 simp only [argL]
 repeat' (first | (apply gL; first | (apply Wl.ev rfl rfl; exact Zev) | apply Wl.nil) | (apply gQ; first | (apply Wq.ev rfl rfl; exact Zev)) | (apply lW; first | apply W.seq | ((show W _ _ _ _ _ _ (.inl (.loop _) :: _) _ _); refine W.loop (X := Nat × Ow) (fun x => [(0, ptr pb), (6, .slice q ss.length c), (7, .int .i64 (ss.length : Nat)), (8, .int .i64 (x.1 : Nat))]) (fun x => prH lv pb (putsS s (ss.take x.1)) x.2 A) (fun x => x.1 ≤ ss.length ∧ ownOk (putsS s (ss.take x.1)).1.length 1 (bytV (putsS s (ss.take x.1)).1) x.2) (fun x => ss.length - x.1) (0, o) ⟨Nat.zero_le _, by rw [List.take_zero]; exact hok⟩ Zn (by rw [List.take_zero]; exact List.Sublist.refl _) ?_) | apply W.region | apply W.block))
 rintro ⟨j, o⟩ ⟨hj, hok⟩
 dsimp only at hj hok ⊢
 by_cases hlt : j < ss.length
 ·obtain ⟨b, off, c1, arr, et, fr, wr, he, hmm, hcc, hgt⟩ := hv.pos Zf7
  cases he
  obtain ⟨t, ht⟩ : ∃ t, ss.getD j [] = t := ⟨_, rfl⟩
  have ht0 : 0 < t.length := hne t (by rw [← ht]; simp [List.getD, hlt])
  have g0 : ∀ o, o = off + j → arr[o]? = some (st t) := fun o e => by
   rw [e]
   exact hgt j _ (by rw [strV_get hlt, ht]) _ rfl
  have hnx : putsS s (ss.take (j + 1)) = putS (putsS s (ss.take j)) t := by rw [putsS_snoc hlt, ht]
  have hb1 : (putsS s (ss.take (j + 1))).1.length ≤ 1000000000 := by
   refine Nat.le_trans ?_ hb
   conv => rhs; rw [← List.take_append_drop (j + 1) ss, putsS_app]
   exact putsS_le _ _
  obtain ⟨⟨out, la⟩, hpre⟩ : ∃ x, putsS s (ss.take j) = x := ⟨_, rfl⟩
  rw [hpre] at hnx hok ⊢
  rw [hnx] at hb1
  have hlen : (putS (out, la) t).1.length = out.length + (sepB la).length + t.length := by
   show (out ++ (sepB la ++ t)).length = _
   rw [List.length_append, List.length_append]
   omega
  rw [hlen] at hb1
  have hn : out.length ≤ 1000000000 := by omega
  have hn1 : out.length + 1 ≤ 1000000000 := by omega
  have htl : t.length ≤ 1000000000 := by omega
  have hfin0 : ∀ o2, ownOk (out.length + (sepB la).length + t.length) 1 (bytV out ++ (bytV (sepB la) ++ bytV t)) o2 → ownOk (putsS s (ss.take (j + 1))).1.length 1 (bytV (putsS s (ss.take (j + 1))).1) o2 := fun o2 h => by
   rw [hnx, hlen]
   show ownOk _ 1 (bytV (out ++ (sepB la ++ t))) o2
   rw [bytV_app, bytV_app]
   exact h
  by_cases h0 : la = []
  ·subst h0
   have hk : out.length + t.length = out.length + (sepB []).length + t.length := rfl
   have hfin : ∀ o2, ownOk (out.length + t.length) 1 (bytV out ++ bytV t) o2 → ownOk (putsS s (ss.take (j + 1))).1.length 1 (bytV (putsS s (ss.take (j + 1))).1) o2 := fun o2 h => hfin0 o2 h
   repeat' (first | (apply gL; first | (apply Wl.ev rfl rfl; exact Zcq) | (refine lD 65 ?_; refine wl_callS rfl rfl has65 rfl (fun w hs => writeString_ok (A := A) (o := o) t ht0 htl (pV_or _ _) hok hn hs) ?_; intro o2 hok2) | apply Wl.nil | (refine Zf9 ?_; try simp only [List.set])) | (apply gQ; first | (apply Wq.ev rfl rfl; exact Zcq)) | (apply lW; first | apply W.seq | apply W.region | apply W.block | apply W.blk | apply W.skip | (refine Zbk ?_) | (refine Zz ?_ ?_ <;> (intro h; try exact Za))))
   all_goals first | exact W.again (j + 1, o2) ⟨by omega, hfin o2 hok2⟩ (show ss.length - (j + 1) < ss.length - j by omega) Zn Zd1 | contradiction
  ·by_cases h1 : la = [59] ∨ la = [123] ∨ la = [125]
   ·have hsep : sepB la = [10] := by unfold sepB; rw [if_neg h0, if_pos h1]
    have hk : out.length + 1 + t.length = out.length + (sepB la).length + t.length := by rw [hsep]; rfl
    have hfin : ∀ o2, ownOk (out.length + 1 + t.length) 1 (bytV out ++ [.int .u8 ((10 : UInt8).toNat : Int)] ++ bytV t) o2 → ownOk (putsS s (ss.take (j + 1))).1.length 1 (bytV (putsS s (ss.take (j + 1))).1) o2 := fun o2 h => hfin0 o2 (by rw [hsep, ← List.append_assoc]; exact h)
    rcases h1 with rfl | rfl | rfl
    all_goals repeat' (first | (apply gL; first | (apply Wl.ev rfl rfl; exact Zcq) | (refine lD 64 ?_; first | (refine wl_callS rfl rfl has64 rfl Zhi ?_; intro o1 hok1) | (refine wl_callS rfl rfl has64 rfl Zhj ?_; intro o1 hok1)) | (refine lD 65 ?_; refine wl_callS rfl rfl has65 rfl Zfv ?_; intro o2 hok2) | apply Wl.nil | (refine Zf9 ?_; try simp only [List.set])) | (apply gQ; first | (apply Wq.ev rfl rfl; exact Zcq)) | (apply lW; first | apply W.seq | apply W.region | apply W.block | apply W.blk | apply W.skip | (refine Zbk ?_) | (refine Zbg ?_) | (refine Zz ?_ ?_ <;> (intro h; try exact Za))))
    all_goals first | exact W.again (j + 1, o2) ⟨by omega, hfin o2 hok2⟩ (show ss.length - (j + 1) < ss.length - j by omega) Zn Zd1 | contradiction
   ·have hsep : sepB la = [32] := by unfold sepB; rw [if_neg h0, if_neg h1]
    have hk : out.length + 1 + t.length = out.length + (sepB la).length + t.length := by rw [hsep]; rfl
    have hfin : ∀ o2, ownOk (out.length + 1 + t.length) 1 (bytV out ++ [.int .u8 ((32 : UInt8).toNat : Int)] ++ bytV t) o2 → ownOk (putsS s (ss.take (j + 1))).1.length 1 (bytV (putsS s (ss.take (j + 1))).1) o2 := fun o2 h => hfin0 o2 (by rw [hsep, ← List.append_assoc]; exact h)
    have n1 : ¬la = [59] := fun e => h1 (.inl e)
    have n2 : ¬la = [123] := fun e => h1 (.inr (.inl e))
    have n3 : ¬la = [125] := fun e => h1 (.inr (.inr e))
    repeat' (first | (apply gL; first | (apply Wl.ev rfl rfl; exact Zdk) | (refine lD 64 ?_; first | (refine wl_callS rfl rfl has64 rfl Zhi ?_; intro o1 hok1) | (refine wl_callS rfl rfl has64 rfl Zhj ?_; intro o1 hok1)) | (refine lD 65 ?_; refine wl_callS rfl rfl has65 rfl Zfv ?_; intro o2 hok2) | apply Wl.nil | (refine Zf9 ?_; try simp only [List.set])) | (apply gQ; first | (apply Wq.ev rfl rfl; exact Zdk)) | (apply lW; first | apply W.seq | apply W.region | apply W.block | apply W.blk | apply W.skip | (refine Zbg ?_) | (refine Zz ?_ ?_ <;> (intro h; try exact Za))))
    all_goals first | exact W.again (j + 1, o2) ⟨by omega, hfin o2 hok2⟩ (show ss.length - (j + 1) < ss.length - j by omega) Zn Zd1 | contradiction
 ·have hall : ss.take j = ss := List.take_of_length_le Zf7
  rw [hall] at hok ⊢
  repeat' (first | (apply gL; first | (apply Wl.ev rfl rfl; exact Zev) | apply Wl.nil) | (apply gQ; first | (apply Wq.ev rfl rfl; exact Zev)) | (apply lW; first | apply W.seq | apply W.region | (refine Zcm ?_) | (refine Zz ?_ ?_ <;> (intro h; try exact Za)) | (refine Zdl ?_; intro w hs)))
  all_goals first | exact GivesS.of hst hs o hok rfl (List.Sublist.refl _) | contradiction | exact Zy
end Go.Proofs.YtbinaeemcidicaaGreatDoor
