/- Walks: lex.Check; whether a token is ahead of all. No condition but the cell that the library's search reads. -/
import Derived.Test.YtbinaeemcidicaaGreatDoorZL7
import Derived.Test.YtbinaeemcidicaaGreatDoorZP5
import Derived.Test.YtbinaeemcidicaaGreatDoorZEQ
import Derived.Test.YtbinaeemcidicaaGreatDoorZPF
set_option maxRecDepth 100000
set_option maxHeartbeats 16000000
namespace Go.Proofs.YtbinaeemcidicaaGreatDoor
open Go.PB Go.RowKit
attribute [local irreducible] Go.Calls
def tiOf (t : Tk) : Ti := ⟨t.k, t.t, t.x, t.at_, t.ln⟩
theorem tisC_of (l : List Tk) : tisC (l.map tiOf) = tksC l := by
 induction l with
 | nil => rfl
 | cons t l ih =>
  show tiC (tiOf t) ++ tisC (l.map tiOf) = tkC t ++ tksC l
  rw [ih]
  rfl
def TiAt (w : World) (v : Value) (l : List Ti) : Prop :=
 (∃ p c, v = .slice p 0 c ∧ l = []) ∨ ∃ b off c arr et fr, v = .slice (some ⟨b, off, none⟩) l.length c ∧ w.heap[b]? = some (.cells arr et fr) ∧ ∀ j u, (tisC l)[j]? = some u → arr[off + j]? = some u
def coreI (t : Ti) : Int × List UInt8 × Int := (t.k, t.t, t.x)
theorem lsame_ok (A B : Ti) (w : World) : Calls Tryz.prog 52 #[.agg (tiC A).toArray, .agg (tiC B).toArray] w (Give (.bool (decide (coreI A = coreI B))) w) := by
 refine give_of_W (vs := [.agg (tiC A).toArray, .agg (tiC B).toArray]) Tryz.func52 rfl Tryz.ntmps52 (Nat.le_of_ble_eq_true rfl) (St.nil w _) ?_
 simp only [argL, Nat.zero_add]
 obtain ⟨k, t, x, i, n⟩ := A
 obtain ⟨k', t', x', i', n'⟩ := B
 simp only [tiC, coreI]
 repeat' (first | (apply gL; first | (apply Wl.ev rfl rfl; exact Zev) | apply Wl.nil | (refine Zbr ?_) | (refine Zc4 ?_; intro b) | ((fail_if_success (apply Wl.chk rfl)); refine Wl.split rfl rfl ?_ ?_ <;> (intro h; try exact Zg))) | (apply gQ; first | (apply Wq.ev rfl rfl; exact Zev)) | (apply lW; first | apply W.seq | apply W.region | (refine Zba ?_; intro w hs)))
 all_goals exact ret_eq hs (congrArg Value.bool (Bool.eq_iff_iff.2 (by simp_all)))
theorem lexG_of {x : List UInt8} {T : List Tk} {e : Int} {p : Nat} (hl : x.length ≤ 1000000) (h : lexS x = (T, e, p)) (w : World) (hm : Mx w) :
  Calls Tryz.prog 14 #[st x] w (Gives (fun o : Ow => .tuple #[ownV T.length o, spotV e (p : Nat)]) (fun o => ownOk T.length 5 (tksC T) o) w (fun _ => []) (owN 67)) := by
 have := lex_ok x Zf7 w hm
 rw [h] at this
 exact this
def rightL (l : List Ti) : Bool := decide (l.length ≤ 2048) && l.all fun t => slfB (coreI t)
theorem rightL_no {l : List Ti} {j : Nat} (hj : j < l.length) (h : slfB (coreI (l.getD j ⟨0, [], 0, 0, 0⟩)) = false) : rightL l = false := by
 cases hr : rightL l with
 | false => rfl
 | true =>
  unfold rightL at hr
  rw [Bool.and_eq_true, List.all_eq_true] at hr
  have := hr.2 (l.getD j ⟨0, [], 0, 0, 0⟩) (by simp [List.getD, hj])
  rw [h] at this
  cases this
theorem rightL_yes {l : List Ti} (hl : l.length ≤ 2048) (h : ∀ i, i < l.length → slfB (coreI (l.getD i ⟨0, [], 0, 0, 0⟩)) = true) : rightL l = true := by
 unfold rightL
 rw [Bool.and_eq_true, List.all_eq_true, decide_eq_true_iff]
 refine ⟨hl, fun t ht => ?_⟩
 obtain ⟨i, hi, rfl⟩ := List.getElem_of_mem ht
 have := h i hi
 simpa [List.getD, hi] using this
theorem slfB_lex {tx : List UInt8} {K X : Int} {T : List Tk} {e : Int} {p : Nat} (h : lexS tx = (T, e, p)) : slfB (K, tx, X) = decide (e = 0 ∧ T.map core = [(K, tx, X)]) := by
 unfold slfB
 simp only
 rw [h]
theorem TiAt.forms {w : World} {v : Value} {l : List Ti} (hv : TiAt w v l) : (∃ p c, v = .slice p 0 c ∧ l = []) ∨ (0 < l.length ∧ ∃ b off c arr et fr, v = .slice (some ⟨b, off, none⟩) l.length c ∧ w.heap[b]? = some (.cells arr et fr) ∧ ∀ (j : Nat) (u : Value), (tisC l)[j]? = some u → arr[off + j]? = some u) := by
 rcases hv with h | ⟨b, off, c, arr, et, fr, h1, h2, h3⟩
 ·exact .inl h
 ·rcases Nat.eq_zero_or_pos l.length with h0 | h0
  ·have : l = [] := List.eq_nil_of_length_eq_zero h0
   subst this
   exact .inl ⟨_, _, h1, rfl⟩
  ·exact .inr ⟨h0, b, off, c, arr, et, fr, h1, h2, h3⟩
theorem check_ok (v : Value) (l : List Ti) (w : World) (hv : TiAt w v l) (hm : Mx w) (hl : l.length ≤ 1000000) (ht : ∀ t ∈ l, t.t.length ≤ 1000000) :
  Calls Tryz.prog 26 #[v] w (Give (.int .i64 (if rightL l = true then 0 else 2)) w) := by
 rcases hv.forms with ⟨p, c, rfl, rfl⟩ | ⟨hpos, b, off, c, arr, et, fr, rfl, hb, hc⟩
 ·refine give_of_W (vs := [.slice p 0 c]) Tryz.func26 rfl Tryz.ntmps26 (Nat.le_of_ble_eq_true rfl) (St.nil w _) ?_
  simp only [argL]
  repeat' (first | (apply gL; first | (apply Wl.ev rfl rfl; exact Zev) | apply Wl.nil) | (apply gQ; first | (apply Wq.ev rfl rfl; exact Zev)) | (apply lW; first | apply W.seq | (refine W.rounds 1 ?_) | apply W.round | apply W.region | apply W.block | apply W.skip | (refine Zcm ?_) | (refine Zbg ?_) | (refine Zba ?_; intro w hs)))
  all_goals exact ret_eq hs rfl
 ·refine give_of_W (vs := [.slice (some ⟨b, off, none⟩) l.length c]) Tryz.func26 rfl Tryz.ntmps26 (Nat.le_of_ble_eq_true rfl) (St.read hb []) ?_
  simp only [argL]
  by_cases h48 : 2048 < l.length
  ·have hno : rightL l = false := by
    unfold rightL
    rw [decide_eq_false Zf7]
    rfl
   repeat' (first | (apply gL; first | (apply Wl.ev rfl rfl; exact Zev) | apply Wl.nil) | (apply gQ; first | (apply Wq.ev rfl rfl; exact Zev)) | (apply lW; first | apply W.seq | apply W.region | (refine Zz ?_ ?_ <;> (intro h; try exact Zg)) | (refine Zba ?_; intro w hs)))
   all_goals exact ret_eq hs (show Value.int .i64 2 = _ by rw [hno]; rfl)
  ·repeat' (first | (apply gL; first | (apply Wl.ev rfl rfl; exact Zev) | apply Wl.nil) | (apply gQ; first | (apply Wq.ev rfl rfl; exact Zev)) | (apply lW; first | apply W.seq | (refine W.loop (X := Nat) (fun j => [(0, .slice (some ⟨b, off, none⟩) l.length c), (10, .slice (some ⟨b, off, none⟩) l.length c), (11, .int .i64 (l.length : Nat)), (12, .int .i64 (j : Nat))]) (fun _ => [⟨b, false, .cells arr et fr⟩]) (fun j => j ≤ l.length ∧ ∀ i, i < j → slfB (coreI (l.getD i ⟨0, [], 0, 0, 0⟩)) = true) (fun j => l.length - j) 0 ⟨Nat.zero_le _, fun i h => absurd h (Nat.not_lt_zero _)⟩ Zn Ze ?_) | apply W.region | apply W.block | apply W.skip | (refine Zz ?_ ?_ <;> (intro h; try exact Zg))))
   rintro j ⟨hj, hall⟩
   by_cases hlt : j < l.length
   ·obtain ⟨A, hA⟩ : ∃ A, l.getD j ⟨0, [], 0, 0, 0⟩ = A := ⟨_, rfl⟩
    have hAl : A.t.length ≤ 1000000 := ht A (by rw [← hA]; simp [List.getD, hlt])
    have ga : ∀ o', o' = off + j * 5 → ∀ i v, (tiC A)[i]? = some v → arr[o' + i]? = some v := fun o' e i v h => by
     rw [e, Nat.add_assoc]
     exact hc _ _ (tisC_get hlt (by rw [show l.getD j ti0 = A from hA]; exact h))
    obtain ⟨K, tx, X, a0, n0⟩ := A
    replace ga : ∀ o', o' = off + j * 5 → ∀ i v, ([.int .i64 K, st tx, .int .i32 X, .int .i64 a0, .int .i64 n0] : List Value)[i]? = some v → arr[o' + i]? = some v := ga
    replace hAl : tx.length ≤ 1000000 := hAl
    obtain ⟨⟨T, e, p⟩, hR⟩ : ∃ R, lexS tx = R := ⟨_, rfl⟩
    have hcA : coreI (l.getD j ⟨0, [], 0, 0, 0⟩) = (K, tx, X) := by rw [hA]; rfl
    have hslf := slfB_lex (K := K) (X := X) hR
    have lxg := lexG_of hAl hR
    by_cases he : e = 0
    ·subst he
     by_cases hT : T.length = 1
     ·obtain ⟨u, rfl⟩ : ∃ u, T = [u] := List.length_eq_one_iff.1 hT
      obtain ⟨uk, ut, ux, ua, un⟩ := u
      have gu0 : ∀ {ucur : Array Value}, (∀ (j : Nat) (v : Value), (tksC [⟨uk, ut, ux, ua, un⟩])[j]? = some v → ucur[j]? = some v) → ∀ o', o' = 0 → ∀ i v, (tiC ⟨uk, ut, ux, ua, un⟩)[i]? = some v → ucur[o' + i]? = some v := fun h o' e i v hi => by
       rw [e, Nat.zero_add]
       exact h i v hi
      by_cases hs1 : coreI ⟨uk, ut, ux, (ua : Nat), (un : Nat)⟩ = coreI ⟨K, tx, X, a0, n0⟩
      ·have hn : ∀ i, i < j + 1 → slfB (coreI (l.getD i ⟨0, [], 0, 0, 0⟩)) = true := fun i hi => by
        rcases Nat.lt_or_ge i j with h | h
        ·exact hall i h
        ·rw [show i = j by omega, hcA, hslf, decide_eq_true_iff]
         exact ⟨rfl, congrArg (· :: []) hs1⟩
       have sm : ∀ w, Calls Tryz.prog 52 #[.agg (tiC ⟨uk, ut, ux, (ua : Nat), (un : Nat)⟩).toArray, .agg (tiC ⟨K, tx, X, a0, n0⟩).toArray] w (Give (.bool true) w) := fun w => by
        have := lsame_ok ⟨uk, ut, ux, (ua : Nat), (un : Nat)⟩ ⟨K, tx, X, a0, n0⟩ w
        rwa [decide_eq_true hs1] at this
       repeat' (first | (apply gL; first | (apply Wl.ev rfl rfl; exact Zih) | ((show Wl _ _ _ _ _ _ _ (⟨_, .alloc 67, _, _, _, _⟩ :: _) _ _); refine wl_alloc rfl rfl (zeroT rfl) ?_; intro tb) | (refine lD 14 ?_; refine wl_callY rfl rfl has14 rfl Ze2 ?_; intro oz hoz; obtain ⟨ub, ucap, ucur, ho, q1, q2, q3⟩ := own_some hoz Zgh; cases ho; have gu := gu0 q3; simp only [ents_owN, ownH_some, ownV_some, List.cons_append, List.nil_append]) | apply Wl.nil | (refine Zbd ?_; intro b) | (refine Zgb ?_)) | (apply gQ; first | (apply Wq.ev rfl rfl; exact Zih) | (refine qD 52 ?_; refine Wq.call0 rfl rfl has52 rfl (fun w _ => sm w) ?_) | apply Wq.nil) | (apply lW; first | apply W.seq | (refine W.again (j + 1) ⟨by omega, hn⟩ Zf7 Zn Ze) | (refine Zgf ?_) | apply W.region | apply W.block | apply W.blk | apply W.skip | (refine Zbg ?_) | (refine Zz ?_ ?_ <;> (intro h; try exact Zg))))
      ·have hno : rightL l = false := rightL_no hlt (by rw [hcA, hslf]; exact decide_eq_false fun h => hs1 (List.cons.inj h.2).1)
       have sm : ∀ w, Calls Tryz.prog 52 #[.agg (tiC ⟨uk, ut, ux, (ua : Nat), (un : Nat)⟩).toArray, .agg (tiC ⟨K, tx, X, a0, n0⟩).toArray] w (Give (.bool false) w) := fun w => by
        have := lsame_ok ⟨uk, ut, ux, (ua : Nat), (un : Nat)⟩ ⟨K, tx, X, a0, n0⟩ w
        rwa [decide_eq_false hs1] at this
       repeat' (first | (apply gL; first | (apply Wl.ev rfl rfl; exact Zih) | ((show Wl _ _ _ _ _ _ _ (⟨_, .alloc 67, _, _, _, _⟩ :: _) _ _); refine wl_alloc rfl rfl (zeroT rfl) ?_; intro tb) | (refine lD 14 ?_; refine wl_callY rfl rfl has14 rfl Ze2 ?_; intro oz hoz; obtain ⟨ub, ucap, ucur, ho, q1, q2, q3⟩ := own_some hoz Zgh; cases ho; have gu := gu0 q3; simp only [ents_owN, ownH_some, ownV_some, List.cons_append, List.nil_append]) | apply Wl.nil | (refine Zbd ?_; intro b) | (refine Zgb ?_)) | (apply gQ; first | (apply Wq.ev rfl rfl; exact Zih) | (refine qD 52 ?_; refine Wq.call0 rfl rfl has52 rfl (fun w _ => sm w) ?_) | apply Wq.nil) | (apply lW; first | apply W.seq | (refine Zgf ?_) | apply W.region | apply W.block | apply W.skip | (refine Zbk ?_) | (refine Zz ?_ ?_ <;> (intro h; try exact Zg)) | (refine Zba ?_; intro w hs)))
       all_goals exact ret_eq hs (show Value.int .i64 2 = _ by rw [hno]; rfl)
     ·have hno : rightL l = false := rightL_no hlt (by
       rw [hcA, hslf]
       exact decide_eq_false fun h => hT (by have := congrArg List.length h.2; simpa using this))
      repeat' (first | (apply gL; first | (apply Wl.ev rfl rfl; exact Zlw) | ((show Wl _ _ _ _ _ _ _ (⟨_, .alloc 67, _, _, _, _⟩ :: _) _ _); refine wl_alloc rfl rfl (zeroT rfl) ?_; intro tb) | (refine lD 14 ?_; refine wl_callY rfl rfl has14 rfl Ze2 ?_; intro oz hoz; simp only [ents_owN, List.cons_append, List.nil_append]) | apply Wl.nil | (refine Zbd ?_; intro b) | (refine Zgb ?_)) | (apply gQ; first | (apply Wq.ev rfl rfl; exact Zlw) | apply Wq.nil | (refine Zek ?_) | ((fail_if_success (apply Wq.chk rfl)); refine Wq.split rfl rfl ?_ ?_ <;> (intro h; try exact Zg))) | (apply lW; first | apply W.seq | (refine Zgf ?_) | apply W.region | apply W.block | apply W.skip | (refine Zbk ?_) | (refine Zz ?_ ?_ <;> (intro h; try exact Zg)) | (refine Zba ?_; intro w hs)))
      all_goals exact ret_eq hs (show Value.int .i64 2 = _ by rw [hno]; rfl)
    ·have hno : rightL l = false := rightL_no hlt (by
      rw [hcA, hslf]
      exact decide_eq_false fun h => he h.1)
     repeat' (first | (apply gL; first | (apply Wl.ev rfl rfl; exact Zl8) | ((show Wl _ _ _ _ _ _ _ (⟨_, .alloc 67, _, _, _, _⟩ :: _) _ _); refine wl_alloc rfl rfl (zeroT rfl) ?_; intro tb) | (refine lD 14 ?_; refine wl_callY rfl rfl has14 rfl Ze2 ?_; intro oz hoz; simp only [ents_owN, List.cons_append, List.nil_append]) | apply Wl.nil | (refine Zbd ?_; intro b) | (refine Zgb ?_)) | (apply gQ; first | (apply Wq.ev rfl rfl; exact Zl8) | apply Wq.nil | (refine Zek ?_) | ((fail_if_success (apply Wq.chk rfl)); refine Wq.split rfl rfl ?_ ?_ <;> (intro h; try exact Zg))) | (apply lW; first | apply W.seq | (refine Zgf ?_) | apply W.region | apply W.block | apply W.skip | (refine Zbk ?_) | (refine Zz ?_ ?_ <;> (intro h; try exact Zg)) | (refine Zba ?_; intro w hs)))
     all_goals exact ret_eq hs (show Value.int .i64 2 = _ by rw [hno]; rfl)
   ·have hyes := rightL_yes (l := l) Zf7 fun i hi => hall i Zf7
    repeat' (first | (apply gL; first | (apply Wl.ev rfl rfl; exact Zev) | apply Wl.nil) | (apply gQ; first | (apply Wq.ev rfl rfl; exact Zev)) | (apply lW; first | apply W.seq | apply W.region | (refine Zcm ?_) | (refine Zz ?_ ?_ <;> (intro h; try exact Zg)) | (refine Zba ?_; intro w hs)))
    all_goals exact ret_eq hs (show Value.int .i64 0 = _ by rw [hyes]; rfl)
theorem TiAt.of {M : List Nat} {w0 w : World} {H : List Ent} {v : Value} {l : List Ti} (hst : St M w0 w H) (h : RdX H v l.length (tisC l)) : TiAt w v l := by
 rcases h with ⟨p, c, h1, h2⟩ | ⟨b, off, c, arr, et, fr, wr, h1, h2, h3, h4⟩
 ·exact .inl ⟨p, c, h1, List.eq_nil_of_length_eq_zero h2⟩
 ·exact .inr ⟨b, off, c, arr, et, fr, h1, hst.get h2, h4⟩
theorem all_right {s : List UInt8} {L : List Tk} {p : Nat} (h : lexS s = (L, 0, p)) {l : List Ti} (hl : ∀ t ∈ l, t ∈ L.map tiOf) (hn : l.length ≤ 2048) : rightL l = true := by
 unfold rightL
 rw [Bool.and_eq_true, List.all_eq_true, decide_eq_true_iff]
 refine ⟨hn, fun t ht => ?_⟩
 obtain ⟨u, hu, rfl⟩ := List.mem_map.1 (hl t ht)
 exact lex_slf h u hu
def belowT (t : Ti) : Bool := decide (t.a < 0)
theorem below_ok (t : Ti) (w : World) : Calls Tryz.prog 25 #[tiV t] w (Give (.bool (belowT t)) w) := by
 refine give_of_W (vs := [tiV t]) Tryz.func25 rfl Tryz.ntmps25 (Nat.le_of_ble_eq_true rfl) (St.nil w _) ?_
 simp only [argL]
 obtain ⟨k, tx, x, a, n⟩ := t
 dsimp only [tiV, tiC]
 repeat' (first | (apply gL; first | (apply Wl.ev rfl rfl; exact Zev) | (refine lB _ ?_; refine wl_box rfl rfl rfl rfl ?_; intro bt) | apply Wl.nil) | (apply gQ; first | (apply Wq.ev rfl rfl; exact Zev)) | (apply lW; first | apply W.seq | apply W.region | (refine Zba ?_; intro w hs)))
 all_goals first | exact ret_eq hs rfl
theorem below_pred : PredE (fnV 25 [] []) belowT [] := ⟨_, _, rfl, has25, fun t _ _ => below_ok t _⟩
theorem any_no {p : Ti → Bool} {l : List Ti} (h : ∀ t ∈ l, ¬p t = true) : l.any p = false := by
 rw [List.any_eq_false]
 exact fun t ht => h t ht
theorem indexF_ok {M : List Nat} {w0 w : World} {H : List Ent} {v fv : Value} {l : List Ti} {p : Ti → Bool} (hst : St M w0 w H) (hv : RdX H v l.length (tisC l)) (hp : PredE fv p []) (hl : l.length ≤ 1000000) :
  Calls Tryz.prog 53 #[v, fv] w (GivesS (fun x : Int => .int .i64 x) (fun x => (0 ≤ x ↔ l.any p = true)) M w0 fun _ => H) := by
 have hv' := hv.ro
 obtain ⟨q, c, rfl⟩ := hv.len
 obtain ⟨f, cs, rfl, hh, hc⟩ := hp
 refine calls_of_W (vs := [.slice q l.length c, fnV f [] cs]) Tryz.func53 rfl Tryz.ntmps53 (Nat.le_of_ble_eq_true rfl) hst.reads ?_
 simp only [argL]
 repeat' (first | (apply gL; first | (apply Wl.ev rfl rfl; exact Zev) | apply Wl.nil) | (apply gQ; first | (apply Wq.ev rfl rfl; exact Zev)) | (apply lW; first | apply W.seq | (refine W.loop (X := Nat) (fun j => [(0, .slice q l.length c), (1, fnV f [] cs), (7, .int .i64 (l.length : Nat)), (8, .int .i64 (j : Nat))]) (fun _ => ro H) (fun j => j ≤ l.length ∧ ∀ a ∈ l.take j, ¬p a = true) (fun j => l.length - j) 0 ⟨Nat.zero_le _, by simp⟩ Zn (List.Sublist.refl _) ?_) | apply W.region | apply W.block))
 rintro j ⟨hj, hall⟩
 by_cases hlt : j < l.length
 ·obtain ⟨b, off, c1, arr, et, fr, wr, he, hm, hcc, hgt⟩ := hv'.pos Zf7
  cases he
  have g0 : ∀ (f : Nat) u, (tiC (l.getD j ti0))[f]? = some u → ∀ o, o = off + (j * 5 + f) → arr[o]? = some u := fun f u h => hgt _ _ (tisC_get hlt h)
  obtain ⟨y, hy⟩ : ∃ y, l.getD j ti0 = y := ⟨_, rfl⟩
  have hmem : y ∈ l := by rw [← hy]; simp [List.getD, hlt]
  rw [hy] at g0
  obtain ⟨r, hr⟩ : ∃ r, p y = r := ⟨_, rfl⟩
  have hcf : ∀ w', St [] w w' (ro H) → Calls Tryz.prog f ([] ++ [tiV y] ++ cs).toArray w' (Give (.bool r) w') := fun w' hs => by
   have := hc y hs (fun e he => by cases he)
   rw [hr] at this
   exact this
  cases r with
  | false =>
   repeat' (first | (apply gL; first | (apply Wl.ev rfl rfl; exact Zcl) | (refine lV 16 ?_; refine wl_callG (val := fun _ : Unit => .bool false) (φ := fun _ => True) (H' := fun _ => ro H) rfl rfl hh rfl rfl Zds ?_; intro q0 hq0; clear hq0) | apply Wl.nil) | (apply gQ; first | (apply Wq.ev rfl rfl; exact Zcl)) | (apply lW; first | apply W.seq | apply W.region | apply W.block | apply W.blk | apply W.skip | (refine Zbg ?_) | (refine Zz ?_ ?_ <;> (intro h; try exact Za))))
   all_goals first
    | exact W.again (j + 1) ⟨hlt, take_snoc_all (d := ti0) hlt hall (by rw [hy, hr]; simp)⟩ Zf7 Zn (List.Sublist.refl _)
    | exact Zy
  | true =>
   repeat' (first | (apply gL; first | (apply Wl.ev rfl rfl; exact Zcl) | (refine lV 16 ?_; refine wl_callG (val := fun _ : Unit => .bool true) (φ := fun _ => True) (H' := fun _ => ro H) rfl rfl hh rfl rfl Zds ?_; intro q0 hq0; clear hq0) | apply Wl.nil) | (apply gQ; first | (apply Wq.ev rfl rfl; exact Zcl)) | (apply lW; first | apply W.seq | apply W.region | apply W.block | apply W.skip | (refine Zbk ?_) | (refine Zz ?_ ?_ <;> (intro h; try exact Za)) | (refine Zba ?_; intro w hs)))
   all_goals first
    | exact ⟨_, ⟨fun _ => List.any_eq_true.2 ⟨y, hmem, hr⟩, fun _ => by omega⟩, rfl, hst.ext (ret_eq (v := .bool true) hs rfl).2⟩
    | exact Zy
 ·obtain rfl : j = l.length := by omega
  rw [List.take_length] at hall
  repeat' (first | (apply gL; first | (apply Wl.ev rfl rfl; exact Zev) | apply Wl.nil) | (apply gQ; first | (apply Wq.ev rfl rfl; exact Zev)) | (apply lW; first | apply W.seq | apply W.region | (refine Zcm ?_) | (refine Zz ?_ ?_ <;> (intro h; try exact Zg)) | (refine Zba ?_; intro w hs)))
  all_goals exact ⟨_, ⟨fun h => by omega, fun h => by rw [any_no hall] at h; cases h⟩, rfl, hst.ext (ret_eq (v := .bool true) hs rfl).2⟩
theorem contF_ok {M : List Nat} {w0 w : World} {H : List Ent} {v fv : Value} {l : List Ti} {p : Ti → Bool} (hst : St M w0 w H) (hv : RdX H v l.length (tisC l)) (hp : PredE fv p []) (hl : l.length ≤ 1000000) :
  Calls Tryz.prog 27 #[v, fv] w (Give (.bool (l.any p)) w) := by
 refine give_of_W (vs := [v, fv]) Tryz.func27 rfl Tryz.ntmps27 (Nat.le_of_ble_eq_true rfl) hst.reads ?_
 simp only [argL]
 repeat' (first | (apply gL; first | (apply Wl.ev rfl rfl; exact Zev) | ((show Wl _ _ _ _ _ _ _ (⟨some 7, .call _, _, _, _, _⟩ :: _) _ _); refine wl_callS rfl rfl has53 rfl (fun w hs => indexF_ok hs hv.ro hp hl) ?_; intro x hx) | apply Wl.nil) | (apply gQ; first | (apply Wq.ev rfl rfl; exact Zev)) | (apply lW; first | apply W.seq | apply W.region | (refine Zba ?_; intro w hs)))
 all_goals first | exact ret_eq hs (congrArg Value.bool (by rw [Bool.eq_iff_iff, decide_eq_true_iff]; exact hx))
end Go.Proofs.YtbinaeemcidicaaGreatDoor
