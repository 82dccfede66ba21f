/- Calls that change blocks of the caller's in place; walks of strings.Builder. No condition. -/
import Derived.Test.YtdnicbbandbdbaaDoorSC
import Derived.Lib.Builder
import Derived.Lib.UnsafeStr
import Derived.Laws.Externs
import Derived.Laws.Pointers
namespace Go.PB
open Go.RowKit Go.Lib
section
variable {P : Program} {ops : Array Oper} {Q : Exit → Act → World → Prop} {M : List Nat} {w0 w w' : World} {n : Nat} {D : List Deferred} {L : List (Nat × Value)} {H : List Ent} {rest : List Oper}
  {d : Tmp} {oty t t' : TypeId} {pos : String} {after : Array Edge} {g : Option (Nat × Bool)} {x y : Operand}
theorem ev_ptrNil {q : Option Addr} (h : P.underlying t = some (.pointer (P.pointee t))) (hx : evo L x = some (.pointer q)) (hy : evo L y = some (.pointer none)) : Ev P M w0 n D L H (.binOp .eql t x y t') oty (.bool q.isNone) := by
  unfold Ev
  intro a w hf _ dst pos after g
  have hg : (eqGuard .eql t x y (.pointer q) (.pointer none)).run P w = .ok () w := by
    unfold eqGuard
    simp
  simp [execOp, hf.eval hx, hf.eval hy, hg, run_eql_pointer_nil w t q h]
theorem ev_ptrSame {a0 : Addr} {te : TypeId} {sz : Nat} (h : P.underlying t = some (.pointer te)) (hz : Sz P te sz) (hx : evo L x = some (.pointer (some a0))) (hy : evo L y = some (.pointer (some a0))) : Ev P M w0 n D L H (.binOp .neq t x y t') oty (.bool false) := by
  unfold Ev
  intro a w hf _ dst pos after g
  obtain ⟨j, hj, _⟩ := Option.map_eq_some_iff.1 hz
  have hg : (eqGuard .neq t x y (.pointer (some a0)) (.pointer (some a0))).run P w = .ok () w := by
    unfold eqGuard
    simp
  simp [execOp, hf.eval hx, hf.eval hy, hg, run_neq_ptr_same w a0 h hj]
theorem ev_toUnsafe {b sz : Nat} {e : TypeId} {wr : Bool} {c : Array Value} {ty : TypeId} {fr : Nat × Nat} (hs : P.underlying t = some (.pointer e)) (hd : P.underlying t' = some .unsafePointer) (hz : Sz P e (sz + 1)) (hm : (⟨b, wr, .cells c ty fr⟩ : Ent) ∈ H) (hc : 0 < c.size) (hx : evo L x = some (.pointer (some ⟨b, 0, none⟩))) :
    Ev P M w0 n D L H (.convert t t' x) oty (.pointer (some ⟨b, 0, none⟩)) := by
  unfold Ev
  intro a w hf hst dst pos after g
  obtain ⟨j, hj, hjs⟩ := Option.map_eq_some_iff.1 hz
  have hb := hst.get hm
  have := run_to_unsafe w ⟨b, 0, none⟩ hs hd hj (by rw [hjs]; omega) (e := ty) (cells := c.size) (by simp [World.shape?, hb]) hc
  simp [execOp, hf.eval hx, this]
theorem ev_fromUnsafe {b sz : Nat} {u : TypeId} {wr : Bool} {c : Array Value} {ty : TypeId} {fr : Nat × Nat} (hs : P.underlying t = some .unsafePointer) (hd : P.underlying t' = some (.pointer u)) (hz : Sz P u sz) (hm : (⟨b, wr, .cells c ty fr⟩ : Ent) ∈ H) (hl : liesAt P P.depth ty (c.size / P.cellsOf ty) 0 u 1 = true) (hx : evo L x = some (.pointer (some ⟨b, 0, none⟩))) :
    Ev P M w0 n D L H (.convert t t' x) oty (.pointer (some ⟨b, 0, none⟩)) := by
  unfold Ev
  intro a w hf hst dst pos after g
  obtain ⟨j, hj, hjs⟩ := Option.map_eq_some_iff.1 hz
  have hb := hst.get hm
  have := run_from_unsafe w ⟨b, 0, none⟩ hs hd hj (e := ty) (cells := c.size) (by simp [World.shape?, hb]) hl
  simp [execOp, hf.eval hx, this]
/-- a function that the runtime has, which hands back what it takes -/
theorem ev_extern {f : FuncId} {fn : Func} {e : Array Value → Sem Value} {v : Value} {ats : Array TypeId} (hf0 : P.funcs[f]? = some fn) (hname : (fn.name == "runtime.NumGoroutine") = false) (hb : fn.body.isNone = true) (hn : Extern.findNext fn = none) (he : Extern.find fn = some e) (hr : ∀ w, (e #[v]).run P w = .ok v w) (hx : evo L x = some v) :
    Ev P M w0 n D L H (.call { callee := .value (.func f), args := #[x], argTypes := ats }) oty v := by
  unfold Ev
  intro a w hf _ dst pos after g
  have := run_callFunc_extern hf0 hname hb hn he #[v] w
  rw [hr] at this
  have e1 : a.eval (.func f) = .func (.func f) #[] #[] := rfl
  simp only [execOp, resolve, e1, Deferred.ofValue, List.map_toArray, Array.map]
  simp [invoke, hf.eval hx, this]
theorem ev_rowOf {p : Addr} {m c : Nat} {ats : Array TypeId} (hx : evo L x = some (.slice (some p) m c)) (hc : 0 < c) : Ev P M w0 n D L H (.call { callee := .builtin .unsafeSliceData, args := #[x], argTypes := ats }) oty (.pointer (some p)) := by
  unfold Ev
  intro a w hf _ dst pos after g
  have := run_unsafeSliceData_row (P := P) w ats oty p m c (by omega)
  simp [execOp, resolve, invoke, builtin, hf.eval hx, this]
theorem ev_rowOf_nil {m c : Nat} {ats : Array TypeId} (hx : evo L x = some (.slice none m c)) : Ev P M w0 n D L H (.call { callee := .builtin .unsafeSliceData, args := #[x], argTypes := ats }) oty (.pointer none) := by
  unfold Ev
  intro a w hf _ dst pos after g
  have := run_unsafeSliceData_nil (P := P) w ats oty m c
  simp [execOp, resolve, invoke, builtin, hf.eval hx, this]
theorem ev_unsafeString_nil {p : Option Addr} (hx : evo L x = some (.pointer p)) (hy : evo L y = some (.int .i64 0)) : Ev P M w0 n D L H (.call { callee := .builtin .unsafeString, args := #[x, y], argTypes := #[t, t'] }) oty (.string ⟨#[]⟩) := by
  unfold Ev
  intro a w hf _ dst pos after g
  have := run_unsafeString_none (P := P) w t t' oty p
  simp [execOp, resolve, invoke, builtin, hf.eval hx, hf.eval hy, this]
  rfl
/-- a text made of the cells of an own block: the block is not looked at again -/
theorem wl_unsafeString {e : TypeId} {gb : Nat} {c : Array Value} {l : List UInt8} {H' : List Ent} (hg : gdv ops L g = some true) (hd : Nat.blt d n = true) (hp : P.underlying t = some (.pointer e)) (hc : P.cellsOf e = 1)
    (hx : evo L x = some (.pointer (some ⟨gb, 0, none⟩))) (hy : evo L y = some (.int .i64 (l.length : Nat))) (h0 : l ≠ []) (h63 : l.length ≤ 9223372036854775807) (hcs : ∀ (j : Nat) v, (bytV l)[j]? = some v → c[j]? = some v)
    (hu : Upd H gb (.cells c e (0, 0)) (.cells c e (0, l.length)) H') (h : Wl P ops Q M w0 n D rest ((d, .string ⟨l.toArray⟩) :: L) H') :
    Wl P ops Q M w0 n D (⟨some d, .call { callee := .builtin .unsafeString, args := #[x, y], argTypes := #[t, t'] }, oty, pos, after, g⟩ :: rest) L H := by
  refine Wl.act hg hd (fun a w hf hst => ?_) h
  have hb := hst.get hu.mem
  have hcell : ∀ j x, l[j]? = some x → w.cell? ((⟨gb, 0, none⟩ : Addr).add j) = some (.int .u8 x.toNat) := fun j x hj => by
    rw [add_lit, Nat.zero_add, cell_cells hb]
    exact hcs j _ (by simp [bytV, hj])
  have hn : l.length ≤ c.size := by
    have h1 : l.length - 1 < l.length := by
      have := List.length_pos_iff.2 h0
      omega
    have := hcs (l.length - 1) (.int .u8 (l[l.length - 1].toNat : Int)) (by simp [bytV, h1])
    obtain ⟨h2, _⟩ := Array.getElem?_eq_some_iff.1 this
    omega
  have hr := run_unsafeString_row (P := P) w t t' oty e hp hc gb c.size (by simp [World.shape?, hb]) l h0 hn h63 hcell
  refine ⟨w.freeze ⟨gb, 0, none⟩ l.length, by simp [execOp, resolve, invoke, builtin, hf.eval hx, hf.eval hy, hr], ?_⟩
  have hl0 : l.length ≠ 0 := by simpa using h0
  refine hst.upd hu ?_ ?_
  · unfold World.freeze
    rw [if_neg hl0]
    exact ⟨rfl, rfl, rfl, by simp, fun j _ hj => by
      have : gb ≠ j := fun e => hj (by rw [e])
      simp [Array.getElem?_modify, this]⟩
  · unfold World.freeze
    rw [if_neg hl0]
    simp [Array.getElem?_modify, hb]
end
end Go.PB
namespace Go.Proofs.YtdnicbbandbdbaaDoor
open Go.PB Go.RowKit
attribute [local irreducible] Go.Calls
/-- a builder's block -/
abbrev bld (bt : TypeId) (p : Value) (n : Nat) (o : Ow) : Obj := row [p, ownV n o] bt
/-- a type that begins with a builder -/
def BT (bt : TypeId) : Prop := liesAt Tryd.prog Tryd.prog.depth bt (2 / Tryd.prog.cellsOf bt) 0 66 1 = true
theorem bt_b : BT 66 := by unfold BT; kernel_rfl
theorem bt_w : BT 68 := by unfold BT; kernel_rfl
set_option maxRecDepth 100000 in
set_option maxHeartbeats 4000000 in
theorem copyCheck_used {bt : TypeId} (hbt : BT bt) {M : List Nat} {w0 w : World} {H : List Ent} {b : Nat} {u : Value} (hst : St M w0 w H) (hm : (⟨b, true, row [.pointer (some ⟨b, 0, none⟩), u] bt⟩ : Ent) ∈ H) :
    Calls Tryd.prog 60 #[.pointer (some ⟨b, 0, none⟩)] w (GivesS (fun _ : Unit => .tuple #[]) (fun _ => True) M w0 (fun _ => H)) := by
  refine calls_of_W (vs := [.pointer (some ⟨b, 0, none⟩)]) Tryd.func60 rfl Tryd.ntmps60 (Nat.le_of_ble_eq_true rfl) hst.fromHere ?_
  simp only [argL]
  repeat' (first | (apply gL; first | (apply Wl.ev rfl rfl; (focus (first | exact ev_move rfl | (apply gLoa; first | exact ev_load (agT rfl) rfl hm rfl) | (apply gFie; first | exact ev_fieldAddr0 (fldT rfl) rfl) | exact ev_nilCheck_ptr rfl | exact ev_ptrNil (by rfl) rfl rfl | exact ev_ptrSame (by rfl) (szT rfl) rfl rfl))) | apply Wl.nil) | (apply gQ; first | (apply Wq.ev rfl rfl; (focus (first | exact ev_move rfl | (apply gLoa; first | exact ev_load (agT rfl) rfl hm rfl) | (apply gFie; first | exact ev_fieldAddr0 (fldT rfl) rfl) | exact ev_nilCheck_ptr rfl | exact ev_ptrNil (by rfl) rfl rfl | exact ev_ptrSame (by rfl) (szT rfl) rfl rfl)))) | ((show W _ _ _ _ _ _ _ _ _); first | apply W.seq | apply W.region | apply W.skip | (refine W.condF rfl ?_) | (refine W.end0 rfl ?_; intro w hs)))
  all_goals exact GivesS.of hst hs () trivial rfl (List.Sublist.refl _)
set_option maxRecDepth 100000 in
set_option maxHeartbeats 4000000 in
theorem copyCheck_new {bt : TypeId} (hbt : BT bt) {M : List Nat} {w0 w : World} {A : List Ent} {b : Nat} {u : Value} (hst : St M w0 w (⟨b, true, row [.pointer none, u] bt⟩ :: A)) :
    Calls Tryd.prog 60 #[.pointer (some ⟨b, 0, none⟩)] w (GivesS (fun _ : Unit => .tuple #[]) (fun _ => True) M w0 (fun _ => ⟨b, true, row [.pointer (some ⟨b, 0, none⟩), u] bt⟩ :: A)) := by
  refine calls_of_W (vs := [.pointer (some ⟨b, 0, none⟩)]) Tryd.func60 rfl Tryd.ntmps60 (Nat.le_of_ble_eq_true rfl) hst.fromHere ?_
  simp only [argL]
  repeat' (first | (apply gL; first | (apply Wl.ev rfl rfl; (focus (first | exact ev_move rfl | (apply gLoa; first | exact ev_load (agT rfl) rfl (List.Mem.head _) rfl) | (apply gFie; first | exact ev_fieldAddr0 (fldT rfl) rfl) | exact ev_nilCheck_ptr rfl | exact ev_ptrNil (by rfl) rfl rfl | exact ev_toUnsafe (by rfl) (by rfl) (szT rfl) (List.Mem.head _) (by simp) rfl | exact ev_fromUnsafe (by rfl) (by rfl) (szT rfl) (List.Mem.head _) (by exact hbt) rfl | exact ev_extern Tryd.func77 (by kernel_rfl) (by kernel_rfl) (by kernel_rfl) (e := Extern.AbiNoEscape.same) (by kernel_rfl) (fun w => Lib.run_noEscape w _) rfl))) | apply Wl.nil | (refine wl_store1 rfl rfl rfl rfl (szT rfl) (by repeat (first | exact Upd.here | apply Upd.there)) (by first | decide | (simp; done)) ?_; try simp only [List.set])) | (apply gQ; first | (apply Wq.ev rfl rfl; (focus (first | exact ev_move rfl | (apply gLoa; first | exact ev_load (agT rfl) rfl (List.Mem.head _) rfl) | (apply gFie; first | exact ev_fieldAddr0 (fldT rfl) rfl) | exact ev_nilCheck_ptr rfl | exact ev_ptrNil (by rfl) rfl rfl | exact ev_toUnsafe (by rfl) (by rfl) (szT rfl) (List.Mem.head _) (by simp) rfl | exact ev_fromUnsafe (by rfl) (by rfl) (szT rfl) (List.Mem.head _) (by exact hbt) rfl | exact ev_extern Tryd.func77 (by kernel_rfl) (by kernel_rfl) (by kernel_rfl) (e := Extern.AbiNoEscape.same) (by kernel_rfl) (fun w => Lib.run_noEscape w _) rfl)))) | ((show W _ _ _ _ _ _ _ _ _); first | apply W.seq | apply W.region | (refine W.condT rfl ?_) | (refine W.end0 rfl ?_; intro w hs)))
  all_goals first | exact GivesS.of hst hs () trivial rfl (List.Sublist.refl _) | fail
set_option maxRecDepth 100000 in
set_option maxHeartbeats 4000000 in
theorem writeByte_ok {bt : TypeId} (hbt : BT bt) {M : List Nat} {w0 w : World} {A : List Ent} {b n : Nat} {p : Value} {o : Ow} {xs : List Value} (c : UInt8) (hp : p = .pointer none ∨ p = .pointer (some ⟨b, 0, none⟩)) (hok : ownOk n 1 xs o) (hn : n ≤ 1000000000)
    (hst : St M w0 w (⟨b, true, bld bt p n o⟩ :: (A ++ ownH 5 o))) :
    Calls Tryd.prog 35 #[.pointer (some ⟨b, 0, none⟩), .int .u8 (c.toNat : Int)] w (GivesS (fun _ : Ow => .nilIface) (fun o' => ownOk (n + 1) 1 (xs ++ [.int .u8 (c.toNat : Int)]) o') M w0 (fun o' => ⟨b, true, bld bt (.pointer (some ⟨b, 0, none⟩)) (n + 1) o'⟩ :: (A ++ ownH 5 o'))) := by
  refine calls_of_W (vs := [.pointer (some ⟨b, 0, none⟩), .int .u8 (c.toNat : Int)]) Tryd.func35 rfl Tryd.ntmps35 (Nat.le_of_ble_eq_true rfl) hst.fromHere ?_
  simp only [argL]
  rcases hp with rfl | rfl
  all_goals (
    repeat' (first | (apply gL; first | (apply Wl.ev rfl rfl; (focus (first | exact ev_move rfl | (apply gLoa; first | exact ev_load (agT rfl) rfl (by repeat (first | exact List.Mem.head _ | apply List.Mem.tail)) rfl) | (apply gFie; first | exact ev_fieldAddr0 (fldT rfl) rfl) | exact ev_assign rfl | exact ev_nilCheck_ptr rfl))) | (refine wl_store1 rfl rfl rfl (ownV_one _ _) (szT rfl) (by repeat (first | exact Upd.here | apply Upd.there)) (by first | decide | (simp; done)) ?_; try simp only [List.set]) | ((show Wl _ _ _ _ _ _ _ (⟨_, .call ⟨.value (.func 60), _, _⟩, _, _, _, _⟩ :: _) _ _); first | (refine wl_callS rfl rfl has60 rfl (fun w hs => copyCheck_used hbt hs (List.Mem.head _)) ?_; rintro ⟨⟩ _) | (refine wl_callS rfl rfl has60 rfl (fun w hs => copyCheck_new hbt hs) ?_; rintro ⟨⟩ _)) | (refine wl_append_own (m := n) (k := 1) (o := o) (xs := xs) (news := [.int .u8 (c.toNat : Int)]) rfl rfl (slT rfl) (szT rfl) (byT rfl) (zeroT rfl) rfl rfl rfl hok (by repeat (first | exact List.Mem.head _ | apply List.Mem.tail)) rfl (fun j v h => by simpa using h) (by simp [Value.oneCell']) (by omega) (by simp only [maxLen]; omega) (by omega) (by repeat (first | exact TailUp.app | apply TailUp.there)) ?_; intro o1 hok1) | apply Wl.nil | (apply wl_buildSlice rfl rfl (slT rfl) (szT rfl) (zeroT rfl) rfl (by decide) rfl; (focus (simp [fillP, List.range_succ]; rfl)); intro b)) | (apply gQ; first | (apply Wq.ev rfl rfl; (focus (first | exact ev_move rfl | (apply gLoa; first | exact ev_load (agT rfl) rfl (by repeat (first | exact List.Mem.head _ | apply List.Mem.tail)) rfl) | (apply gFie; first | exact ev_fieldAddr0 (fldT rfl) rfl) | exact ev_assign rfl | exact ev_nilCheck_ptr rfl)))) | ((show W _ _ _ _ _ _ _ _ _); first | apply W.seq | apply W.region | (refine W.ret1 rfl rfl ?_; intro w hs)))
    all_goals exact GivesS.of hst hs o1 hok1 rfl (by repeat (first | exact SubH.nil | apply SubH.keep | apply SubH.drop | exact List.Sublist.refl _ | exact List.sublist_append_left _ _)))
set_option maxRecDepth 100000 in
set_option maxHeartbeats 4000000 in
theorem writeString_ok {bt : TypeId} (hbt : BT bt) {M : List Nat} {w0 w : World} {A : List Ent} {b n : Nat} {p : Value} {o : Ow} {xs : List Value} (s : List UInt8) (h0 : 0 < s.length) (hsl : s.length ≤ 1000000000) (hp : p = .pointer none ∨ p = .pointer (some ⟨b, 0, none⟩)) (hok : ownOk n 1 xs o) (hn : n ≤ 1000000000)
    (hst : St M w0 w (⟨b, true, bld bt p n o⟩ :: (A ++ ownH 5 o))) :
    Calls Tryd.prog 33 #[.pointer (some ⟨b, 0, none⟩), st s] w (GivesS (fun _ : Ow => .tuple #[.int .i64 (s.length : Nat), .nilIface]) (fun o' => ownOk (n + s.length) 1 (xs ++ bytV s) o') M w0 (fun o' => ⟨b, true, bld bt (.pointer (some ⟨b, 0, none⟩)) (n + s.length) o'⟩ :: (A ++ ownH 5 o'))) := by
  refine calls_of_W (vs := [.pointer (some ⟨b, 0, none⟩), st s]) Tryd.func33 rfl Tryd.ntmps33 (Nat.le_of_ble_eq_true rfl) hst.fromHere ?_
  simp only [argL]
  rcases hp with rfl | rfl
  all_goals (
    repeat' (first | (apply gL; first | (apply Wl.ev rfl rfl; (focus (first | exact ev_move rfl | (apply gLoa; first | exact ev_load (agT rfl) rfl (by repeat (first | exact List.Mem.head _ | apply List.Mem.tail)) rfl) | (apply gFie; first | exact ev_fieldAddr0 (fldT rfl) rfl) | exact ev_assign rfl | (apply gCal; first | exact ev_len_string (strT rfl) rfl) | exact ev_nilCheck_ptr rfl))) | (refine wl_store1 rfl rfl rfl (ownV_one _ _) (szT rfl) (by repeat (first | exact Upd.here | apply Upd.there)) (by first | decide | (simp; done)) ?_; try simp only [List.set]) | ((show Wl _ _ _ _ _ _ _ (⟨_, .call ⟨.value (.func 60), _, _⟩, _, _, _, _⟩ :: _) _ _); first | (refine wl_callS rfl rfl has60 rfl (fun w hs => copyCheck_used hbt hs (List.Mem.head _)) ?_; rintro ⟨⟩ _) | (refine wl_callS rfl rfl has60 rfl (fun w hs => copyCheck_new hbt hs) ?_; rintro ⟨⟩ _)) | (refine wl_appendStr (m := n) (o := o) (xs := xs) (l := s) rfl rfl (slT rfl) (by rfl) (szT rfl) (byT rfl) (zeroT rfl) rfl rfl hok h0 (by simp only [maxLen]; omega) (by omega) (by repeat (first | exact TailUp.app | apply TailUp.there)) ?_; intro o1 hok1) | apply Wl.nil) | (apply gQ; first | (apply Wq.ev rfl rfl; (focus (first | exact ev_move rfl | (apply gLoa; first | exact ev_load (agT rfl) rfl (by repeat (first | exact List.Mem.head _ | apply List.Mem.tail)) rfl) | (apply gFie; first | exact ev_fieldAddr0 (fldT rfl) rfl) | exact ev_assign rfl | (apply gCal; first | exact ev_len_string (strT rfl) rfl) | exact ev_nilCheck_ptr rfl)))) | ((show W _ _ _ _ _ _ _ _ _); first | apply W.seq | apply W.region | (refine W.ret2 rfl rfl rfl ?_; intro w hs)))
    all_goals exact GivesS.of hst hs o1 hok1 rfl (by repeat (first | exact SubH.nil | apply SubH.keep | apply SubH.drop | exact List.Sublist.refl _ | exact List.sublist_append_left _ _)))
set_option maxRecDepth 100000 in
set_option maxHeartbeats 4000000 in
/-- the text of what was written -/
theorem builder_ok {bt : TypeId} (hbt : BT bt) {M : List Nat} {w0 w : World} {A : List Ent} {b : Nat} {p : Value} {o : Ow} {l : List UInt8} (hok : ownOk l.length 1 (bytV l) o) (hl : l ≠ [] ∨ o = none) (hl63 : l.length ≤ 1000000000)
    (hst : St M w0 w (⟨b, true, bld bt p l.length o⟩ :: (A ++ ownH 5 o))) :
    Calls Tryd.prog 36 #[.pointer (some ⟨b, 0, none⟩)] w (GivesS (fun _ : Unit => st l) (fun _ => True) M w0 (fun _ => A)) := by
  refine calls_of_W (vs := [.pointer (some ⟨b, 0, none⟩)]) Tryd.func36 rfl Tryd.ntmps36 (Nat.le_of_ble_eq_true rfl) hst.fromHere ?_
  simp only [argL]
  cases o with
  | none =>
    obtain ⟨h1, h2⟩ := hok
    obtain rfl : l = [] := List.eq_nil_of_length_eq_zero h1
    simp only [List.length_nil] at hst ⊢
    repeat' (first | (apply gL; first | (apply Wl.ev rfl rfl; (focus (first | exact ev_move rfl | (apply gLoa; first | exact ev_load (agT rfl) rfl (by repeat (first | exact List.Mem.head _ | apply List.Mem.tail)) rfl) | (apply gFie; first | exact ev_fieldAddr0 (fldT rfl) rfl) | exact ev_assign rfl | (apply gCal; first | exact ev_len_slice (slT rfl) rfl) | exact ev_nilCheck_ptr rfl | exact ev_rowOf_nil rfl | exact ev_unsafeString_nil rfl rfl))) | apply Wl.nil) | (apply gQ; first | (apply Wq.ev rfl rfl; (focus (first | exact ev_move rfl | (apply gLoa; first | exact ev_load (agT rfl) rfl (by repeat (first | exact List.Mem.head _ | apply List.Mem.tail)) rfl) | (apply gFie; first | exact ev_fieldAddr0 (fldT rfl) rfl) | exact ev_assign rfl | (apply gCal; first | exact ev_len_slice (slT rfl) rfl) | exact ev_nilCheck_ptr rfl | exact ev_rowOf_nil rfl | exact ev_unsafeString_nil rfl rfl))) | apply Wq.nil) | ((show W _ _ _ _ _ _ _ _ _); first | apply W.seq | (refine W.regionQ mixed (by kernel_rfl) ?_) | apply W.region | (refine W.ret1 rfl rfl ?_; intro w hs)))
    all_goals exact GivesS.of hst hs () trivial rfl (List.Sublist.cons _ (List.sublist_append_left _ _))
  | some o =>
    have h0 : l ≠ [] := by
      rcases hl with h | h
      · exact h
      · cases h
    obtain ⟨gb, cap, cur⟩ := o
    have hlp := List.length_pos_iff.2 h0
    have hcp : 0 < cap := by
      have := hok.1
      simp only at this
      omega
    have hcs : ∀ (j : Nat) v, (bytV l)[j]? = some v → cur[j]? = some v := fun j v h => own_get hok h
    repeat' (first | (apply gL; first | (apply Wl.ev rfl rfl; (focus (first | exact ev_move rfl | (apply gLoa; first | exact ev_load (agT rfl) rfl (by repeat (first | exact List.Mem.head _ | apply List.Mem.tail)) rfl) | (apply gFie; first | exact ev_fieldAddr0 (fldT rfl) rfl) | exact ev_assign rfl | (apply gCal; first | exact ev_len_slice (slT rfl) rfl) | exact ev_nilCheck_ptr rfl | exact ev_rowOf rfl hcp))) | (refine wl_unsafeString (l := l) rfl rfl (by rfl) (by kernel_rfl) rfl rfl h0 (by omega) hcs (show Upd (⟨b, true, bld bt p l.length (some (gb, cap, cur))⟩ :: (A ++ [⟨gb, true, .cells cur _ (0, 0)⟩])) gb _ _ (⟨b, true, bld bt p l.length (some (gb, cap, cur))⟩ :: (A ++ [⟨gb, true, .cells cur _ (0, l.length)⟩])) from ⟨⟨b, true, bld bt p l.length (some (gb, cap, cur))⟩ :: A, [], rfl, rfl⟩) ?_) | apply Wl.nil) | (apply gQ; first | (apply Wq.ev rfl rfl; (focus (first | exact ev_move rfl | (apply gLoa; first | exact ev_load (agT rfl) rfl (by repeat (first | exact List.Mem.head _ | apply List.Mem.tail)) rfl) | (apply gFie; first | exact ev_fieldAddr0 (fldT rfl) rfl) | exact ev_assign rfl | (apply gCal; first | exact ev_len_slice (slT rfl) rfl) | exact ev_nilCheck_ptr rfl | exact ev_rowOf rfl hcp))) | ((show Wq _ _ (Qt _ _ _ _) _ _ _ _ [] _ _); apply Wq.tail)) | ((show W _ _ _ _ _ _ _ _ _); first | apply W.seq | ((show W _ _ _ _ _ _ (.inl (.region 1 _ true) :: _) _ _); refine W.regionT 10 mixed (by kernel_rfl) rfl rfl ?_) | apply W.region | (refine W.ret1 rfl rfl ?_; intro w hs)))
    all_goals exact GivesS.of hst hs () trivial rfl (List.Sublist.cons _ (List.sublist_append_left _ _))
end Go.Proofs.YtdnicbbandbdbaaDoor
