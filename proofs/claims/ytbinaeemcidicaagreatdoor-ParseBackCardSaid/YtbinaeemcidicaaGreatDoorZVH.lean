/- Walks: copies within memory; a slice of one number again and again. No condition. -/
import Derived.Test.YtbinaeemcidicaaGreatDoorZVD
import Derived.Test.YtbinaeemcidicaaGreatDoorZEQ
import Derived.Test.YtbinaeemcidicaaGreatDoorZEN
import Derived.Test.YtbinaeemcidicaaGreatDoorZLS
import Derived.Test.YtbinaeemcidicaaGreatDoorZQP
import Derived.Test.YtbinaeemcidicaaGreatDoorZED
import Derived.Laws.CopyRow
import Derived.Laws.OwnMore
import Derived.Test.YtbinaeemcidicaaGreatDoorZVF
import Derived.Test.YtbinaeemcidicaaGreatDoorZVN
set_option maxRecDepth 100000
set_option maxHeartbeats 16000000
namespace Go.PB
open Go.RowKit
section
variable {P : Program} {ops : Array Oper} {Q : Exit → Act → World → Prop} {M : List Nat} {w0 : World} {n : Nat} {D : List Deferred} {L : List (Nat × Value)} {H H' : List Ent} {rest : List Oper} {d : Tmp} {oty t t' : TypeId} {pos : String} {after : Array Edge} {g : Option (Nat × Bool)} {x y : Operand}
theorem wl_copy {e et et' : TypeId} {b o dl dc sb so sl sc : Nat} {l cs : List Value} {arr : Array Value} {fr : Nat × Nat} {wr : Bool} (hg : gdv ops L g = some true) (hd : Nat.blt d n = true) (ht : Sl P t e) (hs : Sz P e 1)
  (hx : evo L x = some (.slice (some ⟨b, o, none⟩) dl dc)) (hy : evo L y = some (.slice (some ⟨sb, so, none⟩) sl sc)) (hn : cs.length = Nat.min sl dl)
  (hm : (⟨sb, wr, .cells arr et' fr⟩ : Ent) ∈ H) (hc : ∀ (j : Nat) v, cs[j]? = some v → arr[so + j]? = some v) (h1 : ∀ v ∈ cs, v.oneCell' = true)
  (hu : Upd H b (row l et) (row (l.take o ++ cs ++ l.drop (o + cs.length)) et) H') (hfit : o + cs.length ≤ l.length)
  (h : Wl P ops Q M w0 n D rest ((d, .int .i64 (cs.length : Nat)) :: L) H') :
  Wl P ops Q M w0 n D (⟨some d, .call { callee := .builtin .copy, args := #[x, y], argTypes := #[t, t'] }, oty, pos, after, g⟩ :: rest) L H := by
 unfold Wl at h ⊢
 intro a w hf hst
 unfold wpList
 rw [if_pos Zck]
 refine .inl ?_
 unfold Oper.wp
 have ht' : P.underlying t = some (.slice e) := ht
 have hb := hst.get hu.mem
 have hr := run_copy_row (P := P) w t t' oty e b o dl dc ⟨sb, so, none⟩ sl sc l.toArray et cs ht' hs hb hn (fun j v hj => by rw [add_lit, cell_cells (hst.get hm)]; exact hc j v hj) (by simpa using hfit) h1
 have hex : (execOp a.eval ⟨some d, .call { callee := .builtin .copy, args := #[x, y], argTypes := #[t, t'] }, oty, pos, after, g⟩).run P w =
   ((Builtin.copy_ #[t, t'] oty #[.slice (some ⟨b, o, none⟩) dl dc, .slice (some ⟨sb, so, none⟩) sl sc]).run P w).andThen fun v w' => .ok (.value v) w' := by
  simp [execOp, resolve, invoke, builtin, hf.eval hx, hf.eval hy]
 rw [hex, hr]
 exact h _ _ (hf.put (dst := some d) Zct) (hst.upd hu ⟨rfl, rfl, rfl, by simp, fun k _ hk => setRow_other w b k _ (fun e => hk (by rw [e]))⟩ (setRow_heap w b _ _ et _ hb))
end
end Go.PB
namespace Go.Proofs.YtbinaeemcidicaaGreatDoor
open Go.PB Go.RowKit
attribute [local irreducible] Go.Calls
theorem has143 : Has Tryz.prog 143 := ⟨_, _, Tryz.func143, rfl, by kernel_rfl⟩
theorem u64_in {m : Int} (h : 0 ≤ m ∧ m < 9223372036854775808) : IntKind.u64.wrap m = m := by
 show m % 18446744073709551616 = m
 omega
theorem mul1_ok (k : Nat) (hk : k ≤ 1000000) (w : World) : Calls Tryz.prog 143 #[.int .u64 1, .int .u64 (k : Nat)] w (Give (.tuple #[.int .u64 0, .int .u64 (k : Nat)]) w) := by
 refine (Tryz.bits_Mul 1 k Zf6 Zf7 w).mono ?_
 rintro e w' ⟨rfl, rfl⟩
 refine ⟨?_, Turn.refl _⟩
 rw [Nat.one_mul, Nat.div_eq_of_lt Zf7, Nat.mod_eq_of_lt Zf7]
 rfl
def repL (k n : Nat) (x : Int) : List Value := List.replicate n (.int .i64 x) ++ List.replicate (k - n) (.int .i64 0)
theorem repL_len {k n : Nat} {x : Int} (h : n ≤ k) : (repL k n x).length = k := by
 unfold repL
 rw [List.length_append, List.length_replicate, List.length_replicate]
 omega
theorem made_row (k : Nat) (x : Int) (e : TypeId) : Obj.cells (madeCells [Value.int .i64 0].toArray (k * 1)) e (0, 0) = row (repL k 0 x) e := by
 have h := toList_madeCells_one (.int .i64 0) (k * 1)
 rw [Nat.mul_one] at h
 unfold row repL
 congr 1
 apply Array.ext'
 show (madeCells #[Value.int .i64 0] (k * 1)).toList = _
 rw [Nat.mul_one, h]
 simp
theorem rep_copy {k n m : Nat} {x : Int} (h : n + m ≤ k) : (repL k n x).take n ++ List.replicate m (.int .i64 x) ++ (repL k n x).drop (n + m) = repL k (n + m) x := by
 unfold repL
 rw [List.take_left' Zgh, List.drop_append, List.length_replicate, List.drop_of_length_le Zgh, List.nil_append, List.drop_replicate, List.replicate_append_replicate]
 congr 2
 omega
theorem repL_get {k n j : Nat} {x : Int} {m : Nat} {v : Value} (hm : m ≤ n) (h : (List.replicate m (Value.int .i64 x))[j]? = some v) : (repL k n x).toArray[0 + j]? = some v := by
 obtain ⟨h1, h2⟩ := List.getElem?_eq_some_iff.1 h
 rw [List.length_replicate] at h1
 rw [List.getElem_replicate] at h2
 subst h2
 unfold repL
 rw [Nat.zero_add]
 simp only [List.getElem?_toArray]
 rw [List.getElem?_append_left (by rw [List.length_replicate]; omega), List.getElem?_replicate, if_pos Zf7]
theorem one_all {m : Nat} {x : Int} : ∀ v ∈ List.replicate m (Value.int .i64 x), v.oneCell' = true := fun v hv => by
 rw [List.eq_of_mem_replicate hv]
 rfl
theorem cell_one {m j : Nat} {x : Int} {v : Value} (h : (List.replicate (min 1 m) (Value.int .i64 x))[j]? = some v) : [Value.int .i64 x].toArray[0 + j]? = some v := by
 obtain ⟨h1, h2⟩ := List.getElem?_eq_some_iff.1 h
 rw [List.length_replicate] at h1
 rw [List.getElem_replicate] at h2
 subst h2
 obtain rfl : j = 0 := by omega
 rfl
theorem repeat_ok {M : List Nat} {w0 w : World} {H : List Ent} {xb k : Nat} {wr : Bool} {x : Int} (hst : St M w0 w H) (hx : (⟨xb, wr, row [.int .i64 x] 3⟩ : Ent) ∈ H) (hk : k ≤ 1000000) :
  Calls Tryz.prog 107 #[.slice (some ⟨xb, 0, none⟩) 1 1, .int .i64 (k : Nat)] w (GivesS (fun nb : Nat => .slice (some ⟨nb, 0, none⟩) k k) (fun _ => True) M w0 (fun nb => ⟨nb, true, row (List.replicate k (.int .i64 x)) 3⟩ :: H)) := by
 refine calls_of_W (vs := [.slice (some ⟨xb, 0, none⟩) 1 1, .int .i64 (k : Nat)]) Tryz.func107 rfl Tryz.ntmps107 (Nat.le_of_ble_eq_true rfl) hst.fromHere ?_
 simp only [argL]
 have hxT : ∀ {e : Ent}, (⟨xb, wr, .cells [Value.int .i64 x].toArray 3 (0, 0)⟩ : Ent) ∈ e :: H := List.Mem.tail _ hx
 repeat' (first | (apply gL; first | (apply Wl.ev rfl rfl; exact Ze4) | (refine wl_makeSlice (m := k) (c := k) rfl rfl (slT rfl) (szT rfl) (byT rfl) (zeroT rfl) rfl rfl (Nat.le_refl _) Zf7 Zf7 Zf7 ?_; intro nb; rw [made_row k x]) | ((show Wl _ _ _ _ _ _ _ (⟨some 33, .call _, _, _, _, _⟩ :: _) _ _); refine wl_copy (H' := ⟨nb, true, row (repL k (0 + min 1 k) x) 3⟩ :: H) (cs := List.replicate (min 1 k) (.int .i64 x)) (o := 0) (l := repL k 0 x) rfl rfl (slT rfl) (szT rfl) rfl rfl (by rw [List.length_replicate]) hxT (fun j v h => cell_one h) one_all (by rw [List.length_replicate, rep_copy Zf7]; exact Upd.here) (by rw [List.length_replicate, repL_len (Nat.zero_le _)]; omega) ?_; rw [List.length_replicate]) | (refine lD 143 ?_; refine wl_call0 rfl rfl has143 rfl (fun w _ => mul1_ok k hk w) ?_) | apply Wl.nil) | (apply gQ; first | (apply Wq.ev rfl rfl; exact Ze4)) | (apply lW; first | apply W.seq | ((show W _ _ _ _ _ _ (.inl (.loop _) :: _) _ _); refine W.loop (X := Nat) (fun n => [(7, .slice (some ⟨nb, 0, none⟩) k k), (8, .int .i64 (n : Nat))]) (fun n => ⟨nb, true, row (repL k n x) 3⟩ :: H) (fun n => n ≤ k ∧ (0 < n ∨ k = 0)) (fun n => k - n) (0 + min 1 k) Zf7 (by rw [Nat.zero_add]; exact Zn) (List.Sublist.refl _) ?_) | apply W.region | apply W.block | apply W.skip | (refine Zbg ?_) | (refine Zz ?_ ?_ <;> (intro h; try exact Za))))
 all_goals first | contradiction | exact Zy | skip
 rintro n ⟨hnk, hn0⟩
 by_cases hlt : n < k
 ·repeat' (first | (apply gL; first | (apply Wl.ev rfl rfl; exact Zce) | ((show Wl _ _ _ _ _ _ _ (⟨some 45, .call _, _, _, _, _⟩ :: _) _ _); refine wl_copy (H' := ⟨nb, true, row (repL k (n + min n (k - n)) x) 3⟩ :: H) (cs := List.replicate (min n (k - n)) (.int .i64 x)) (o := n) (l := repL k n x) rfl rfl (slT rfl) (szT rfl) (by show some (Value.slice (some ⟨nb, 0 + n * 1, none⟩) (k - n) (k - n)) = _; rw [Nat.zero_add, Nat.mul_one]) rfl (by rw [List.length_replicate]) (List.Mem.head _) (fun j v h => repL_get Zf7 h) one_all (by rw [List.length_replicate, rep_copy Zf7]; exact Upd.here) (by rw [List.length_replicate, repL_len hnk]; omega) ?_; rw [List.length_replicate]) | apply Wl.nil) | (apply gQ; first | (apply Wq.ev rfl rfl; exact Zce)) | (apply lW; first | apply W.seq | ((show W _ _ _ _ _ _ (.inl (.region 9 _ true) :: _) _ _); refine W.regionM [7] [] [] mixed ?_) | apply W.region | apply W.block | apply W.blk | apply W.skip | (refine Zz ?_ ?_ <;> (intro h; try exact Za))) | ((show Wm _ _ _ _ _ _ _ _ _ _ _ _ _ _ _ _); first | ((refine Zgg ?_)) | (refine Zgq ?_) | (refine Zgs ?_) | (refine Zhs ?_) | (refine Wm.take1 Zj rfl Zj Zk Zf6 rfl rfl Zce Zb Zb ?_) | (refine Wm.take0 Zj rfl Zj Zk Zk Zf6 Zf6 rfl rfl Zce Zb Zb ?_) | ((fail_if_success (refine Zbn ?_)); (refine Zgc ?_ ?_ <;> (intro h; try exact Za))) | ((fail_if_success (refine Zbn ?_)); (refine Zga ?_ ?_ <;> (intro h; try exact Za))) | apply Wm.next) | apply AllO.nil | apply AllO.cons | (refine Or.inl Zk) | ((show _ ∨ Wl _ _ _ _ _ _ _ _ _ _); apply Or.inr) | (refine Zgt ?_))
  all_goals first | exact W.again (n + min n (k - n)) Zf7 (show k - (n + min n (k - n)) < k - n by omega) Zn (List.Sublist.refl _) | contradiction | exact Zy
 ·obtain rfl : n = k := by omega
  have he : repL n n x = List.replicate n (.int .i64 x) := by unfold repL; rw [Nat.sub_self]; simp
  rw [he]
  repeat' (first | (apply gL; first | (apply Wl.ev rfl rfl; exact Zev) | apply Wl.nil) | (apply gQ; first | (apply Wq.ev rfl rfl; exact Zev)) | (apply lW; first | apply W.seq | apply W.region | (refine Zcm ?_) | (refine Zz ?_ ?_ <;> (intro h; try exact Za)) | (refine Zba ?_; intro w hs)))
  all_goals first | exact GivesS.of hst hs nb trivial rfl (List.Sublist.refl _) | contradiction | exact Zy
end Go.Proofs.YtbinaeemcidicaaGreatDoor
namespace Go.Proofs.YtbinaeemcidicaaGreatDoor
open Go.PB Go.RowKit
attribute [local irreducible] Go.Calls
abbrev LayI (lv : Value) (pb : Nat) (R : List Ent) (k : Int) (ts : List (List UInt8)) : Prop := PrC 17 [ptr pb, .int .i64 k] lv pb R ts
abbrev SideI (lv : Value) (pb : Nat) (R : List Ent) (k : Int) (ts : List (List UInt8)) : Prop := PrC 67 [ptr pb, .int .i64 k] lv pb R ts
abbrev ndL (kd : Int) (ty tx : List UInt8) (nm : Int) (kv : Value) (pl : Int) : List Value := [.int .i64 kd, st ty, st tx, .int .i32 nm, kv, .int .i64 pl]
theorem nv_cell {off : Nat} {arr : Array Value} {l : List Nv} (h : ∀ (j : Nat) u, (nvsC l)[j]? = some u → ∀ o, o = off + j → arr[o]? = some u) {i f : Nat} {y : Nv} (hi : i < l.length) (hy : l.getD i nv0 = y) {v : Value} (hv : (nvC y)[f]? = some v) {o : Nat} (ho : o = off + i * 6 + f) : arr[o]? = some v := by
 subst hy
 exact h _ _ (nvsC_get hi hv) _ Zf7
theorem side_ok {lv : Value} {pb : Nat} {R : List Ent} {l : List Nv} (hT : RdT R lv l) {i : Nat} (hi : i < l.length) {kd : Int} (hkd : (l.getD i nv0).nd.kd = kd) {ts : List (List UInt8)} (hlay : LayI lv pb R (i : Nat) ts) :
  SideI lv pb R (i : Nat) (if opK kd = true then [[40]] ++ (ts ++ [[41]]) else ts) := by
 intro M w0 w A s o hst hR hok hb
 obtain ⟨b, off, c, arr, et, fr, wr, rfl, hmm, hcc, hgt⟩ := hT.1.pos Zf7
 have hmA := hR _ hmm
 have g0 : ∀ o, o = off + i * 6 → arr[o]? = some (.int .i64 kd) := fun o ho => nv_cell hgt (f := 0) hi rfl (by rw [← hkd]; rfl) Zf7
 refine calls_of_W (vs := [ptr pb, .int .i64 (i : Nat)]) Tryz.func67 rfl Tryz.ntmps67 (Nat.le_of_ble_eq_true rfl) hst.fromHere ?_
 simp only [argL]
 by_cases h4 : kd = 13 ∨ kd = 14 ∨ kd = 15 ∨ kd = 16
 ·have ho : opK kd = true := by rcases h4 with rfl | rfl | rfl | rfl <;> rfl
  rw [if_pos ho, putsS_app, putsS_app] at hb ⊢
  rcases h4 with rfl | rfl | rfl | rfl
  all_goals (
   repeat' (first | (apply gL; first | (apply Wl.ev rfl rfl; exact Zx) | (refine lC 22 33 ?_; refine wl_callS rfl rfl has33 rfl (fun w hs => put_at (ss := [[40]]) hs Zs Zd rfl Zf5 Zv Zi (Nat.le_of_ble_eq_true rfl)) ?_; intro oq hoq) | (refine lC 25 17 ?_; refine wl_callS rfl rfl has17 rfl (fun w hs => pr_at (hlay) hs Zs Zf5 Zf5 Zi) ?_; intro oq hoq) | (refine lC 28 33 ?_; refine wl_callS rfl rfl has33 rfl Zi2 ?_; intro oq hoq) | apply Wl.nil | (apply wl_buildSlice rfl rfl (slT rfl) (szT rfl) (zeroT rfl) rfl Zf6 rfl; exact Zt; intro b)) | (apply gQ; first | (apply Wq.ev rfl rfl; exact Zx)) | (apply lW; first | apply W.seq | apply W.region | apply W.block | apply W.blk | apply W.skip | (refine Zbk ?_) | (refine Zbg ?_) | (refine Zdl ?_; intro w hs)))
   all_goals first | exact GivesS.of hst hs _ Zf5 rfl Ze | contradiction | exact Zy | fail)
 ·have ho : ¬opK kd = true := by unfold opK; simp only [Bool.or_eq_true, decide_eq_true_eq]; omega
  rw [if_neg ho] at hb ⊢
  repeat' (first | (apply gL; first | (apply Wl.ev rfl rfl; exact Zx) | (refine lC 14 17 ?_; refine wl_callS rfl rfl has17 rfl (fun w hs => pr_at (hlay) hs Zs Zf5 Zf5 Zi) ?_; intro oq hoq) | apply Wl.nil) | (apply gQ; first | (apply Wq.ev rfl rfl; exact Zx)) | (apply lW; first | apply W.seq | apply W.region | apply W.block | apply W.blk | (refine Zz ?_ ?_ <;> (intro h; try exact Za)) | (refine Zdl ?_; intro w hs)))
  all_goals first | exact GivesS.of hst hs _ Zf5 rfl Ze | contradiction | exact Zy
def comS : List (List (List UInt8)) → List (List UInt8)
 | [] => []
 | [a] => a
 | a :: b :: l => a ++ ([44] :: comS (b :: l))
theorem comS_snoc : ∀ (l : List (List (List UInt8))) (a : List (List UInt8)), comS (l ++ [a]) = if l = [] then a else comS l ++ ([[44]] ++ a)
 | [], a => rfl
 | [x], a => by
  show x ++ ([44] :: comS [a]) = _
  rw [if_neg Zgh]
  rfl
 | x :: y :: l, a => by
  show x ++ ([44] :: comS (y :: l ++ [a])) = _
  rw [comS_snoc (y :: l) a, if_neg Zgh, if_neg Zgh]
  show _ = (x ++ ([44] :: comS (y :: l))) ++ ([[44]] ++ a)
  simp
theorem comS_next {K : List (List (List UInt8))} {j : Nat} (h : j < K.length) : comS (K.take (j + 1)) = if j = 0 then K.getD j [] else comS (K.take j) ++ ([[44]] ++ K.getD j []) := by
 have e : K.take (j + 1) = K.take j ++ [K.getD j []] := by
  rw [List.take_succ_eq_append_getElem h]
  simp [List.getD, h]
 rw [e, comS_snoc]
 by_cases h0 : j = 0
 ·subst h0
  rfl
 ·rw [if_neg h0, if_neg]
  intro hn
  have := congrArg List.length hn
  rw [List.length_take, List.length_nil] at this
  omega
theorem com_le {s : PS} {K : List (List (List UInt8))} {j : Nat} (h : j < K.length) : (putsS s (comS (K.take (j + 1)))).1.length ≤ (putsS s (comS K)).1.length := by
 have key : ∀ (m j : Nat), K.length - j = m → j ≤ K.length → (putsS s (comS (K.take j))).1.length ≤ (putsS s (comS K)).1.length := by
  intro m
  induction m with
  | zero =>
   intro j hm hj
   rw [List.take_of_length_le Zf7]
   exact Nat.le_refl _
  | succ m ih =>
   intro j hm hj
   refine Nat.le_trans ?_ (ih (j + 1) Zf7 Zf7)
   rw [comS_next Zf7]
   split
   ·rename_i h0
    subst h0
    exact putsS_le s _
   ·rw [putsS_app]
    exact putsS_le _ _
 exact key _ _ rfl Zf7
theorem list_okP {lv v : Value} {pb : Nat} {R : List Ent} {ks : List Int} {K : List (List (List UInt8))} (hv : RdX R v ks.length (intV ks)) (hl : K.length = ks.length) (hk : ∀ j, j < ks.length → LayI lv pb R (ks.getD j 0) (K.getD j [])) (h63 : ks.length ≤ 1000000) :
  PrC 34 [ptr pb, v] lv pb R (comS K) := by
 intro M w0 w A s o hst hR hok hb
 obtain ⟨q, c, rfl⟩ := hv.len
 refine calls_of_W (vs := [ptr pb, .slice q ks.length c]) Tryz.func34 rfl Tryz.ntmps34 (Nat.le_of_ble_eq_true rfl) hst.fromHere ?_
 simp only [argL]
 repeat' (first | (apply gL; first | (apply Wl.ev rfl rfl; exact Zev) | apply Wl.nil) | (apply gQ; first | (apply Wq.ev rfl rfl; exact Zev)) | (apply lW; first | apply W.seq | ((show W _ _ _ _ _ _ (.inl (.loop _) :: _) _ _); refine W.loop (X := Nat × Ow) (fun x => [(0, ptr pb), (6, .slice q ks.length c), (7, .int .i64 (ks.length : Nat)), (8, .int .i64 (x.1 : Nat))]) (fun x => prH lv pb (putsS s (comS (K.take x.1))) x.2 A) (fun x => x.1 ≤ ks.length ∧ ownOk (putsS s (comS (K.take x.1))).1.length 1 (bytV (putsS s (comS (K.take x.1))).1) x.2) (fun x => ks.length - x.1) (0, o) ⟨Nat.zero_le _, by rw [List.take_zero]; exact hok⟩ Zn (by rw [List.take_zero]; exact List.Sublist.refl _) ?_) | apply W.region | apply W.block))
 rintro ⟨j, o⟩ ⟨hj, hok⟩
 dsimp only at hj hok ⊢
 by_cases hlt : j < ks.length
 ·obtain ⟨b, off, c1, arr, et, fr, wr, he, hmm, hcc, hgt⟩ := hv.pos Zf7
  cases he
  have hmA := hR _ hmm
  obtain ⟨k, hkj⟩ : ∃ k, ks.getD j 0 = k := ⟨_, rfl⟩
  have hkid := hk j hlt
  rw [hkj] at hkid
  have g0 : ∀ o, o = off + j → arr[o]? = some (.int .i64 k) := fun o e => by
   rw [e]
   exact hgt j _ Zdi _ rfl
  have hb1 := Nat.le_trans (com_le (s := s) (K := K) (j := j) Zf7) hb
  have hnx := congrArg (putsS s) (comS_next (K := K) (j := j) Zf7)
  by_cases h0 : j = 0
  ·rw [if_pos h0] at hnx
   rw [hnx] at hb1
   clear hb
   have hb := hb1
   have e0 : comS (K.take j) = [] := by rw [h0]; rfl
   rw [e0, putsS_nil] at hok ⊢
   repeat' (first | (apply gL; first | (apply Wl.ev rfl rfl; exact Zx) | (refine lC 20 17 ?_; refine wl_callS rfl rfl has17 rfl Zi9 ?_; intro oq hoq) | apply Wl.nil) | (apply gQ; first | (apply Wq.ev rfl rfl; exact Zx)) | (apply lW; first | apply W.seq | apply W.region | apply W.block | apply W.blk | apply W.skip | (refine Zz ?_ ?_ <;> (intro h; try exact Za))))
   all_goals first | exact W.again (j + 1, oq) (show j + 1 ≤ ks.length ∧ ownOk (putsS s (comS (K.take (j + 1)))).1.length 1 (bytV (putsS s (comS (K.take (j + 1)))).1) oq from ⟨by omega, by rw [hnx]; assumption⟩) (show ks.length - (j + 1) < ks.length - j by omega) Zn Zg6 | contradiction | exact Zy
  ·rw [if_neg h0, putsS_app, putsS_app] at hnx
   rw [hnx] at hb1
   clear hb
   have hb := hb1
   repeat' (first | (apply gL; first | (apply Wl.ev rfl rfl; exact Zx) | (refine lC 17 33 ?_; refine wl_callS rfl rfl has33 rfl (fun w hs => put_at (ss := [[44]]) hs Zs Zd rfl Zf5 Zv Zi (Nat.le_of_ble_eq_true rfl)) ?_; intro oq hoq) | (refine lC 20 17 ?_; refine wl_callS rfl rfl has17 rfl Zi9 ?_; intro oq hoq) | apply Wl.nil | (apply wl_buildSlice rfl rfl (slT rfl) (szT rfl) (zeroT rfl) rfl Zf6 rfl; exact Zt; intro b)) | (apply gQ; first | (apply Wq.ev rfl rfl; exact Zx)) | (apply lW; first | apply W.seq | apply W.region | apply W.block | apply W.blk | apply W.skip | (refine Zz ?_ ?_ <;> (intro h; try exact Za))))
   all_goals first | exact W.again (j + 1, oq) (show j + 1 ≤ ks.length ∧ ownOk (putsS s (comS (K.take (j + 1)))).1.length 1 (bytV (putsS s (comS (K.take (j + 1)))).1) oq from ⟨by omega, by rw [hnx]; assumption⟩) (show ks.length - (j + 1) < ks.length - j by omega) Zn Zg6 | contradiction | exact Zy
 ·have hall : K.take j = K := List.take_of_length_le Zf7
  rw [hall] at hok ⊢
  repeat' (first | (apply gL; first | (apply Wl.ev rfl rfl; exact Zev) | apply Wl.nil) | (apply gQ; first | (apply Wq.ev rfl rfl; exact Zev)) | (apply lW; first | apply W.seq | apply W.region | (refine Zcm ?_) | (refine Zz ?_ ?_ <;> (intro h; try exact Za)) | (refine Zdl ?_; intro w hs)))
  all_goals first | exact GivesS.of hst hs o hok rfl (List.Sublist.refl _) | contradiction | exact Zy
end Go.Proofs.YtbinaeemcidicaaGreatDoor
namespace Go.Proofs.YtbinaeemcidicaaGreatDoor
open Go.PB Go.RowKit
attribute [local irreducible] Go.Calls
abbrev ExpI (lv : Value) (pb : Nat) (R : List Ent) (cs : List Value) (ts : List (List UInt8)) : Prop := PrC 36 [ptr pb, .agg cs.toArray] lv pb R ts
abbrev StmI (lv : Value) (pb : Nat) (R : List Ent) (cs : List Value) (ts : List (List UInt8)) : Prop := PrC 35 [ptr pb, .agg cs.toArray] lv pb R ts
section
variable {lv kv : Value} {pb : Nat} {R : List Ent} {kd nm pl : Int} {ty tx : List UInt8} {a b c : Int} {t0 t1 t2 : List (List UInt8)}
theorem exp_two (hv : RdX R kv 2 [.int .i64 a, .int .i64 b]) (hk : kd = 13 ∨ kd = 15) (htx : 0 < tx.length) (h0 : SideI lv pb R a t0) (h1 : SideI lv pb R b t1) : ExpI lv pb R (ndL kd ty tx nm kv pl) (t0 ++ ([tx] ++ t1)) := by
 intro M w0 w A s o hst hR hok hb
 simp only [putsS_app] at hb ⊢
 (refine Zbz ?_; simp only [argL])
 obtain ⟨b, off, c, arr, et, fr, wr, rfl, hmm, hcc, hgt⟩ := hv.pos Zf6
 have hmA := hR _ hmm
 rcases hk with rfl | rfl
 all_goals (
  repeat' (first | (apply gL; first | (apply Wl.ev rfl rfl; exact Zl) | (refine lC 19 67 ?_; refine wl_callS rfl rfl has67 rfl Zjl ?_; intro oq hoq) | (refine lC 24 33 ?_; refine wl_callS rfl rfl has33 rfl Ziq ?_; intro oq hoq) | (refine lC 30 67 ?_; refine wl_callS rfl rfl has67 rfl Zkk ?_; intro oq hoq) | apply Wl.nil | (refine Zc4 ?_; intro b) | (apply wl_buildSlice rfl rfl (slT rfl) (szT rfl) (zeroT rfl) rfl Zf6 rfl; exact Zt; intro b)) | (apply gQ; first | (apply Wq.ev rfl rfl; exact Zl)) | (apply lW; first | apply W.seq | apply W.region | apply W.block | apply W.blk | apply W.skip | (refine Zbk ?_) | (refine Zbg ?_) | (refine Zdl ?_; intro w hs)))
  all_goals first | exact GivesS.of hst hs _ Zf5 rfl Ze | contradiction | exact Zy | fail)
theorem exp_cond (hv : RdX R kv 3 [.int .i64 a, .int .i64 b, .int .i64 c]) (hk : kd = 14) (h0 : SideI lv pb R a t0) (h1 : SideI lv pb R b t1) (h2 : SideI lv pb R c t2) : ExpI lv pb R (ndL kd ty tx nm kv pl) (t0 ++ ([[63]] ++ (t1 ++ ([[58]] ++ t2)))) := by
 intro M w0 w A s o hst hR hok hb
 simp only [putsS_app] at hb ⊢
 (refine Zbz ?_; simp only [argL])
 obtain ⟨b, off, c, arr, et, fr, wr, rfl, hmm, hcc, hgt⟩ := hv.pos Zf6
 have hmA := hR _ hmm
 subst hk
 repeat' (first | (apply gL; first | (apply Wl.ev rfl rfl; exact Zl) | (refine lC 38 67 ?_; refine wl_callS rfl rfl has67 rfl Zjl ?_; intro oq hoq) | (refine lC 41 33 ?_; refine wl_callS rfl rfl has33 rfl (fun w hs => put_at (ss := [[63]]) hs Zs Zd rfl Zf5 Zv Zi (Nat.le_of_ble_eq_true rfl)) ?_; intro oq hoq) | (refine lC 47 67 ?_; refine wl_callS rfl rfl has67 rfl Zkk ?_; intro oq hoq) | (refine lC 50 33 ?_; refine wl_callS rfl rfl has33 rfl (fun w hs => put_at (ss := [[58]]) hs Zs Zd rfl Zf5 Zv Zi (Nat.le_of_ble_eq_true rfl)) ?_; intro oq hoq) | (refine lC 56 67 ?_; refine wl_callS rfl rfl has67 rfl Zl5 ?_; intro oq hoq) | apply Wl.nil | (refine Zc4 ?_; intro b) | (apply wl_buildSlice rfl rfl (slT rfl) (szT rfl) (zeroT rfl) rfl Zf6 rfl; exact Zt; intro b)) | (apply gQ; first | (apply Wq.ev rfl rfl; exact Zl)) | (apply lW; first | apply W.seq | apply W.region | apply W.block | apply W.blk | (refine Zbk ?_) | (refine Zbg ?_) | (refine Zdl ?_; intro w hs)))
 all_goals first | exact GivesS.of hst hs _ Zf5 rfl Ze | contradiction | exact Zy
theorem exp_un (hv : RdX R kv 1 [.int .i64 a]) (hk : kd = 16) (htx : 0 < tx.length) (h0 : SideI lv pb R a t0) : ExpI lv pb R (ndL kd ty tx nm kv pl) ([tx] ++ t0) := by
 intro M w0 w A s o hst hR hok hb
 simp only [putsS_app] at hb ⊢
 (refine Zbz ?_; simp only [argL])
 obtain ⟨b, off, c, arr, et, fr, wr, rfl, hmm, hcc, hgt⟩ := hv.pos Zf6
 have hmA := hR _ hmm
 subst hk
 repeat' (first | (apply gL; first | (apply Wl.ev rfl rfl; exact Zl) | (refine lC 63 33 ?_; refine wl_callS rfl rfl has33 rfl Ziq ?_; intro oq hoq) | (refine lC 69 67 ?_; refine wl_callS rfl rfl has67 rfl Zjl ?_; intro oq hoq) | apply Wl.nil | (refine Zc4 ?_; intro b) | (apply wl_buildSlice rfl rfl (slT rfl) (szT rfl) (zeroT rfl) rfl Zf6 rfl; exact Zt; intro b)) | (apply gQ; first | (apply Wq.ev rfl rfl; exact Zl)) | (apply lW; first | apply W.seq | apply W.region | apply W.block | apply W.blk | (refine Zbk ?_) | (refine Zbg ?_) | (refine Zdl ?_; intro w hs)))
 all_goals first | exact GivesS.of hst hs _ Zf5 rfl Ze | contradiction | exact Zy
theorem exp_fld (hv : RdX R kv 1 [.int .i64 a]) (hk : kd = 18) (htx : 0 < tx.length) (h0 : SideI lv pb R a t0) : ExpI lv pb R (ndL kd ty tx nm kv pl) (t0 ++ [[46], tx]) := by
 intro M w0 w A s o hst hR hok hb
 simp only [putsS_app] at hb ⊢
 (refine Zbz ?_; simp only [argL])
 obtain ⟨b, off, c, arr, et, fr, wr, rfl, hmm, hcc, hgt⟩ := hv.pos Zf6
 have hmA := hR _ hmm
 subst hk
 repeat' (first | (apply gL; first | (apply Wl.ev rfl rfl; exact Zl) | (refine lC 77 67 ?_; refine wl_callS rfl rfl has67 rfl Zjl ?_; intro oq hoq) | (refine lC 82 33 ?_; refine wl_callS rfl rfl has33 rfl (fun w hs => put_at (ss := [[46], tx]) hs Zs Zd rfl Zf5 Zv Zi (Nat.le_of_ble_eq_true rfl)) ?_; intro oq hoq) | apply Wl.nil | (refine Zc4 ?_; intro b) | (apply wl_buildSlice rfl rfl (slT rfl) (szT rfl) (zeroT rfl) rfl Zf6 rfl; exact Zt; intro b)) | (apply gQ; first | (apply Wq.ev rfl rfl; exact Zl)) | (apply lW; first | apply W.seq | apply W.region | apply W.block | apply W.blk | (refine Zbk ?_) | (refine Zbg ?_) | (refine Zdl ?_; intro w hs)))
 all_goals first | exact GivesS.of hst hs _ Zf5 rfl Ze | contradiction | exact Zy
theorem exp_call {ks : List Int} {K : List (List (List UInt8))} (hk : kd = 17) (htx : 0 < tx.length) (hv : RdX R kv ks.length (intV ks)) (hl : K.length = ks.length) (hK : ∀ j, j < ks.length → LayI lv pb R (ks.getD j 0) (K.getD j [])) (h63 : ks.length ≤ 1000000) :
  ExpI lv pb R (ndL kd ty tx nm kv pl) ([tx, [40]] ++ (comS K ++ [[41]])) := by
 intro M w0 w A s o hst hR hok hb
 obtain ⟨q, c, rfl⟩ := hv.len
 have hli := list_okP (lv := lv) (pb := pb) hv hl hK h63
 simp only [putsS_app] at hb ⊢
 obtain ⟨kv, hkv⟩ : ∃ kv, Value.slice q ks.length c = kv := ⟨_, rfl⟩
 rw [hkv] at hli ⊢
 (refine Zbz ?_; simp only [argL])
 subst hk hkv
 repeat' (first | (apply gL; first | (apply Wl.ev rfl rfl; exact Zev) | (refine lC 89 33 ?_; refine wl_callS rfl rfl has33 rfl (fun w hs => put_at (ss := [tx, [40]]) hs Zs Zd rfl Zf5 Zv Zi (Nat.le_of_ble_eq_true rfl)) ?_; intro oq hoq) | (refine lC 93 34 ?_; refine wl_callS rfl rfl has34 rfl Zll ?_; intro oq hoq) | (refine lC 96 33 ?_; refine wl_callS rfl rfl has33 rfl Zi2 ?_; intro oq hoq) | apply Wl.nil | (refine Zc4 ?_; intro b) | (apply wl_buildSlice rfl rfl (slT rfl) (szT rfl) (zeroT rfl) rfl Zf6 rfl; exact Zt; intro b)) | (apply gQ; first | (apply Wq.ev rfl rfl; exact Zev)) | (apply lW; first | apply W.seq | apply W.region | apply W.block | apply W.blk | (refine Zbk ?_) | (refine Zbg ?_) | (refine Zdl ?_; intro w hs)))
 all_goals first | exact GivesS.of hst hs _ Zf5 rfl Ze | contradiction | exact Zy
theorem exp_int (hpow : PowE R) (hk : kd = 20) (hx : -2147483648 < nm ∧ nm ≤ 2147483647) : ExpI lv pb R (ndL kd ty tx nm kv pl) (wholeT' nm) := by
 intro M w0 w A s o hst hR hok hb
 have hw := whole_ok' (lv := lv) (pb := pb) hpow hx
 obtain ⟨ts, hts⟩ : ∃ ts, wholeT' nm = ts := ⟨_, rfl⟩
 rw [hts] at hw hb ⊢
 (refine Zbz ?_; simp only [argL])
 subst hk
 repeat' (first | (apply gL; first | (apply Wl.ev rfl rfl; exact Zev) | (refine lC 102 66 ?_; refine wl_callS rfl rfl has66 rfl (fun w hs => pr_at (hw) hs Zs Zf5 Zf5 Zi) ?_; intro oq hoq) | apply Wl.nil | (refine Zc4 ?_; intro b)) | (apply gQ; first | (apply Wq.ev rfl rfl; exact Zev)) | (apply lW; first | apply W.seq | apply W.region | apply W.block | apply W.blk | (refine Zbk ?_) | (refine Zbg ?_) | (refine Zdl ?_; intro w hs)))
 all_goals first | exact GivesS.of hst hs _ Zf5 rfl Ze | contradiction | exact Zy
theorem exp_flt (hpow : PowE R) (hk : kd = 21) (hx : -2147483648 ≤ nm ∧ nm ≤ 2147483647) : ExpI lv pb R (ndL kd ty tx nm kv pl) [floS nm] := by
 intro M w0 w A s o hst hR hok hb
 have hfl : ∀ {w' : World} {H : List Ent} {M : List Nat} {w0 : World}, St M w0 w' H → (∀ e ∈ A, e ∈ H) → Calls Tryz.prog 68 #[.int .i32 nm] w' (Give (st (floS nm)) w') := fun {w' H M w0} hs hm => float_ok nm hx w' ((hpow.mono fun e he => hm e (hR e he)).st hs)
 have hl := (floS_len nm hx).1
 obtain ⟨f, hf⟩ : ∃ f, floS nm = f := ⟨_, rfl⟩
 rw [hf] at hfl hl hb ⊢
 have hfp : 0 < f.length := hl
 (refine Zbz ?_; simp only [argL])
 subst hk
 repeat' (first | (apply gL; first | (apply Wl.ev rfl rfl; exact Zev) | (refine lD 68 ?_; refine wl_call0 rfl rfl has68 rfl (fun w hs => hfl hs (fun e he => by simp [he])) ?_) | (refine lC 110 33 ?_; refine wl_callS rfl rfl has33 rfl (fun w hs => put_at (ss := [f]) hs Zs Zd rfl Zf5 Zv Zi (Nat.le_of_ble_eq_true rfl)) ?_; intro oq hoq) | apply Wl.nil | (refine Zc4 ?_; intro b) | (apply wl_buildSlice rfl rfl (slT rfl) (szT rfl) (zeroT rfl) rfl Zf6 rfl; exact Zt; intro b)) | (apply gQ; first | (apply Wq.ev rfl rfl; exact Zev)) | (apply lW; first | apply W.seq | apply W.region | apply W.block | apply W.blk | (refine Zbk ?_) | (refine Zbg ?_) | (refine Zdl ?_; intro w hs)))
 all_goals first | exact GivesS.of hst hs _ Zf5 rfl Ze | contradiction | exact Zy
theorem exp_name (hk : kd = 19 ∨ kd = 22) (htx : 0 < tx.length) : ExpI lv pb R (ndL kd ty tx nm kv pl) [tx] := by
 intro M w0 w A s o hst hR hok hb
 (refine Zbz ?_; simp only [argL])
 rcases hk with rfl | rfl
 all_goals (
  repeat' (first | (apply gL; first | (apply Wl.ev rfl rfl; exact Zev) | (refine lC 10 33 ?_; refine wl_callS rfl rfl has33 rfl Ziq ?_; intro oq hoq) | apply Wl.nil | (refine Zc4 ?_; intro b) | (apply wl_buildSlice rfl rfl (slT rfl) (szT rfl) (zeroT rfl) rfl Zf6 rfl; exact Zt; intro b)) | (apply gQ; first | (apply Wq.ev rfl rfl; exact Zev)) | (apply lW; first | apply W.seq | apply W.region | apply W.block | apply W.blk | (refine Zbg ?_) | (refine Zdl ?_; intro w hs)))
  all_goals first | exact GivesS.of hst hs _ Zf5 rfl Ze | contradiction | exact Zy | fail)
end
end Go.Proofs.YtbinaeemcidicaaGreatDoor
