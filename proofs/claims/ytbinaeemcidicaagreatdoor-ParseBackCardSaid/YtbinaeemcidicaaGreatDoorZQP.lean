/- Walks: Parse of a text's tokens; whether the layer does anything. No condition but the cell that the library's search reads. -/
import Derived.Test.YtbinaeemcidicaaGreatDoorZQL
import Derived.Test.YtbinaeemcidicaaGreatDoorZCut
set_option maxRecDepth 100000
set_option maxHeartbeats 16000000
namespace Go.PB
open Go.RowKit
section
variable {P : Program} {M : List Nat} {w0 : World} {n : Nat} {D : List Deferred} {L : List (Nat × Value)} {H : List Ent}
theorem ev_sliceHi {t : TypeId} {x : Operand} {oty e : TypeId} {sz m c k : Nat} {b : Addr} {hi : Operand} {kk : IntKind} {j : Int} (ht : Sl P t e) (hs : Sz P e sz) (hx : evo L x = some (.slice (some b) m c)) (hhi : evo L hi = some (.int kk j)) (hj : j = (k : Nat)) (hb : k ≤ c) :
  Ev P M w0 n D L H (.slice t x none (some hi) none) oty (.slice (some b) k c) := by
 have ht' : P.underlying t = some (.slice e) := ht
 subst hj
 unfold Ev
 intro a w hf _ dst pos after g
 have h1 : (0 : Int) ≤ ((k : Nat) : Int) := by omega
 have h2 : ((k : Nat) : Int) ≤ (c : Nat) := by omega
 simp [execOp, hf.eval hx, hf.eval hhi, Instr.sliceAt, Instr.slice, Instr.sliceBounds, Instr.sliceBound, asIntOf, run_underlying ht', h1, hb, run_sizeOf hs, Addr.add]
end
end Go.PB
namespace Go.Proofs.YtbinaeemcidicaaGreatDoor
open Go.PB Go.RowKit
attribute [local irreducible] Go.Calls
theorem rawS_pos {n : Int} (h : 0 ≤ n) : 0 ≤ rawS n ∧ rawS n ≤ 2147483647 := ⟨by unfold rawS; omega, (rawS_range n).2⟩
theorem parseS_pos {l : List UInt8} (h : l.head? ≠ some 45) : 0 ≤ (parseS l).1 ∧ (parseS l).1 ≤ 2147483647 := by
 unfold parseS
 split
 ·exact ⟨Int.le_refl _, by decide⟩
 ·dsimp only
  split
  ·exact ⟨Int.le_refl _, by decide⟩
  ·split
   ·exact ⟨Int.le_refl _, by decide⟩
   ·first | exact rawS_pos Zf7 | (rw [if_neg h]; exact rawS_pos Zf7)
theorem tok_x (l : List UInt8) : 0 ≤ (tokS l).x ∧ (tokS l).x ≤ 2147483647 := by
 have z : (0 : Int) ≤ 0 ∧ (0 : Int) ≤ 2147483647 := by decide
 unfold tokS
 split
 ·split <;> exact z
 ·rename_i h0
  split
  ·rename_i h1
   unfold numS
   split
   ·exact z
   ·split
    ·exact z
    ·split
     ·refine parseS_pos fun e => ?_
      cases l with
      | nil => simp at e
      | cons c l =>
       have : c = 45 := by
        cases hn : numN (c :: l) with
        | zero => rw [hn] at e; simp at e
        | succ k => rw [hn] at e; simpa using e
       subst this
       revert h1
       simp [dgB]
       try decide
     ·split
      ·exact z
      ·exact rawS_pos Zf7
  ·split <;> exact z
theorem ch_tok {s : List UInt8} : ∀ {l : List Tk} {i : Nat}, Ch s i l → ∀ t ∈ l, ∃ q, i ≤ q ∧ q < s.length ∧ t = tkAt s q
 | [], _, _, _, ht => by cases ht
 | t :: l, i, h, u, hu => by
  obtain ⟨_, q, h1, h2, _, _, h5, h6⟩ := h
  rcases List.mem_cons.1 hu with rfl | hu
  ·exact ⟨q, h1, h2, h5⟩
  ·obtain ⟨q', h7, h8, h9⟩ := ch_tok h6 u hu
   exact ⟨q', by omega, h8, h9⟩
theorem lex_tok {s : List UInt8} {T : List Tk} {p : Nat} (h : lexS s = (T, 0, p)) : ∀ t ∈ T.map tiOf, (-2147483648 < t.x ∧ t.x ≤ 2147483647) ∧ t.t.length ≤ 1000000 ∧ belowT t = false := fun t ht => by
 obtain ⟨h1, h2, h3⟩ := ch_of_lexS h
 obtain ⟨u, hu, rfl⟩ := List.mem_map.1 ht
 obtain ⟨q, _, hq, rfl⟩ := ch_tok h2 u hu
 have hx := tok_x (s.drop q)
 refine ⟨⟨?_, hx.2⟩, ?_, ?_⟩
 ·show -2147483648 < (tokS (s.drop q)).x
  omega
 ·show ((s.drop q).take _).length ≤ _
  rw [List.length_take, List.length_drop]
  omega
 ·show decide (((q : Nat) : Int) < 0) = false
  exact decide_eq_false Zf7
theorem par_lex {s : List UInt8} {T : List Tk} {p f : Nat} (h : lexS s = (T, 0, p)) {L l' : List Ti} (hL : ∀ t ∈ L, t ∈ T.map tiOf) (hn : L.length ≤ 2048) {M : List Nat} {w0 w : World} {A : List Ent} {lv : Value} {o : Option (List Pt)}
  (hst : St M w0 w A) (hx : MxE A) (hv : RdX A lv L.length (tisC L)) (e : pF f (.shad []) L = some (o, l')) : Calls Tryz.prog 15 #[lv] w (ParR L o l' M w0 A) :=
 parseT_ok hst hx hv (all_right h hL hn) (any_no fun t ht => by rw [(lex_tok h t (hL t ht)).2.2]; simp) (fun t ht => (lex_tok h t (hL t ht)).1) (fun t ht => (lex_tok h t (hL t ht)).2.1) e
theorem tisC_app (a b : List Ti) : tisC (a ++ b) = tisC a ++ tisC b := by unfold tisC; rw [List.flatMap_append]
theorem tisC_take {L : List Ti} {k j : Nat} {u : Value} (h : (tisC (L.take k))[j]? = some u) : (tisC L)[j]? = some u := by
 obtain ⟨hi, _⟩ := List.getElem?_eq_some_iff.1 h
 conv => lhs; rw [← List.take_append_drop k L, tisC_app, List.getElem?_append_left hi]
 exact h
theorem RdX.pre {R : List Ent} {b off n c k : Nat} {L : List Ti} (h : RdX R (.slice (some ⟨b, off, none⟩) n c) n (tisC L)) (hn : n = L.length) (hk : k ≤ n) : RdX R (.slice (some ⟨b, off, none⟩) k c) (L.take k).length (tisC (L.take k)) := by
 subst hn
 rw [List.length_take, Nat.min_eq_left hk]
 rcases h with ⟨p, c', h1, h2⟩ | ⟨b', off', c', arr, et, fr, wr, h1, h2, h3, h4⟩
 ·exact .inl ⟨_, _, by rw [show k = 0 by omega], by omega⟩
 ·cases h1
  exact .inr ⟨b, off, c, arr, et, fr, wr, rfl, h2, by omega, fun j u hu => h4 j u (tisC_take hu)⟩
theorem mx_ent {w : World} (h : Mx w) : ∃ arr et fr m, w.heap[0]? = some (.cells arr et fr) ∧ arr[0]? = some (.int .i64 m) := by
 obtain ⟨m, h⟩ := h
 unfold World.cell? at h
 split at h
 ·rename_i c et fr hc
  exact ⟨c, et, fr, m, hc, by simpa using h⟩
 ·cases h
abbrev wkS : List UInt8 := [118, 111, 105, 100, 32, 109, 97, 105, 110, 40, 41, 123, 105, 110, 116, 32, 97, 61, 49, 45, 50, 45, 51, 59, 125]
def wkT : List Tk := (lexS wkS).1
def wkL : List Ti := wkT.map tiOf
def wkP : List Pt := match pF 60 (.shad []) wkL with
 | some (some ps, _) => ps
 | _ => []
def wkN : List Nd := (putP (.mk 1 [] [] 0 0 wkP) 0 0 none).1
theorem wk_lex : lexS wkS = (wkT, 0, 0) := by kernel_rfl
theorem wk_len : wkL.length = 15 := by kernel_rfl
theorem wk_all : pF 60 (.shad []) wkL = some (some wkP, []) := by kernel_rfl
theorem wk_nd : putP (.mk 1 [] [] 0 0 wkP) 0 0 none = (wkN, none) := by kernel_rfl
theorem wk_n : wkN.length = 10 ∧ (wkN.getD 3 ⟨0, [], [], 0, [], 0⟩).kd = 2 := by
 refine ⟨by kernel_rfl, by kernel_rfl⟩
theorem wk_bad : pF 60 (.shad []) (wkL.take 3) = some (none, []) := by kernel_rfl
end Go.Proofs.YtbinaeemcidicaaGreatDoor
namespace Go.Proofs.YtbinaeemcidicaaGreatDoor
open Go.PB Go.RowKit
attribute [local irreducible] Go.Calls
theorem wk_tlen : wkT.length = 15 := by kernel_rfl
theorem wk_tis : tisC wkL = tksC wkT := tisC_of wkT
theorem wk_parse {lb cap : Nat} {M : List Nat} {w0 w : World} {A : List Ent} (hs : St M w0 w A) (hx : MxE A) (hv : RdX A (.slice (some ⟨lb, 0, none⟩) 15 cap) wkL.length (tisC wkL)) :
  Calls Tryz.prog 15 #[.slice (some ⟨lb, 0, none⟩) 15 cap] w (GivesS (fun x : Nat × Nat × Array Value => .tuple #[.agg [.slice (some ⟨x.1, 0, none⟩) 10 x.2.1].toArray, .agg [.int .i64 0, .int .i64 0].toArray]) (fun x => x.2.2[0 + (3 : Int).toNat * 6 + 0]? = some (.int .i64 2)) M w0 fun x => ⟨x.1, true, .cells x.2.2 47 (0, 0)⟩ :: A) := by
 have h := par_lex wk_lex (L := wkL) (fun t ht => ht) (by rw [wk_len]; decide) hs hx hv wk_all
 unfold ParR at h
 dsimp only at h
 rw [wk_nd] at h
 refine h.mono fun e w' hR => ?_
 obtain ⟨⟨N2, o3⟩, ⟨h2, ho3, hN2⟩, he, hs'⟩ := hR
 dsimp only at h2 ho3 hN2 he hs'
 have hl : N2.length = 10 := by rw [← List.length_map (f := Prod.fst), h2]; exact wk_n.1
 rw [hl] at ho3 he
 obtain ⟨nb, ncap, ncur, rfl, k1, k2, k3⟩ := own_some ho3 Zf6
 refine ⟨(nb, ncap, ncur), ?_, he, hs'.subc (by intro e; simp only [List.count_append, cnt_cons, List.count_nil, ownH_some]; omega)⟩
 refine k3 18 _ ?_
 have h3 : (N2.map Prod.fst).getD 3 ⟨0, [], [], 0, [], 0⟩ = wkN.getD 3 ⟨0, [], [], 0, [], 0⟩ := by rw [h2]
 match N2, hl with
 | [n0, n1, n2, n3, n4, n5, n6, n7, n8, n9], _ =>
  show some (Value.int .i64 n3.1.kd) = _
  have : n3.1 = wkN.getD 3 ⟨0, [], [], 0, [], 0⟩ := h3
  rw [this, wk_n.2]
theorem wk_parse3 {lb cap : Nat} {M : List Nat} {w0 w : World} {A : List Ent} (hs : St M w0 w A) (hx : MxE A) (hv : RdX A (.slice (some ⟨lb, 0, none⟩) 15 cap) wkL.length (tisC wkL)) :
  Calls Tryz.prog 15 #[.slice (some ⟨lb, 0, none⟩) 3 cap] w (GivesS (fun _ : Unit => .tuple #[.agg [.slice none 0 0].toArray, .agg [.int .i64 220, .int .i64 (endP (wkL.take 3) 3)].toArray]) (fun _ => True) M w0 fun _ => A) := by
 rw [wk_len] at hv
 have h3 : (wkL.take 3).length = 3 := by rw [List.length_take, wk_len]; decide
 have h := par_lex wk_lex (L := wkL.take 3) (fun t ht => List.mem_of_mem_take ht) (by rw [h3]; decide) hs hx (hv.pre wk_len.symm Zf6) wk_bad
 unfold ParR at h
 rw [h3] at h
 exact h
theorem wakesP_ok (w : World) (hm : Mx w) : Calls Tryz.prog 5 #[] w (Give (.bool true) w) := by
 obtain ⟨arr, et, fr, m, h0, h1⟩ := mx_ent hm
 refine give_of_W (vs := []) Tryz.func5 rfl Tryz.ntmps5 (Nat.le_of_ble_eq_true rfl) (St.read h0 []) ?_
 simp only [argL]
 have lx : ∀ w, Mx w → Calls Tryz.prog 14 #[st wkS] w (Gives (fun o : Ow => .tuple #[ownV 15 o, spotV 0 0]) (fun o => ownOk 15 5 (tksC wkT) o) w (fun _ => []) (owN 67)) := fun w h => by
  have := lex_ok wkS Zgh w h
  rw [wk_lex] at this
  unfold LexG at this
  dsimp only at this
  rw [wk_tlen] at this
  exact this
 repeat' (first | (apply gL; first | (apply Wl.ev rfl rfl; exact Zlu) | (refine lD 14 ?_; refine wl_callX rfl rfl has14 rfl (fun w hs => lx w (hm.st hs Zgh) ) ?_; intro o ho; obtain ⟨lb, cap, cur, rfl, hcap, hsz, hget⟩ := own_some ho Zf6; simp only [ents_owN, ownH, List.singleton_append, ownV]; try simp only [ents, List.map_cons, List.map_nil, List.cons_append, List.nil_append]) | (refine lC 16 15 ?_; refine wl_callS rfl rfl has15 rfl (fun w hs => wk_parse hs (⟨arr, et, fr, false, m, Zd, h1⟩ : MxE _) (.inr ⟨lb, 0, cap, cur, 67, (0, 0), true, by rw [wk_len], Zd, by rw [wk_len]; exact hcap, fun j u hu => by rw [Nat.zero_add]; exact hget j u (by rw [← wk_tis]; exact hu)⟩)) ?_; rintro ⟨nb, ncap, ncur⟩ hcell; dsimp only at hcell) | (refine lC 22 15 ?_; refine wl_callS rfl rfl has15 rfl (fun w hs => wk_parse3 hs (⟨arr, et, fr, false, m, Zd, h1⟩ : MxE _) (.inr ⟨lb, 0, cap, cur, 67, (0, 0), true, by rw [wk_len], Zd, by rw [wk_len]; exact hcap, fun j u hu => by rw [Nat.zero_add]; exact hget j u (by rw [← wk_tis]; exact hu)⟩)) ?_; intro q1 hq1; clear hq1) | (refine Zf8 ?_) | apply Wl.nil | (refine Zbd ?_; intro b)) | (apply gQ; first | (apply Wq.ev rfl rfl; exact Zlu)) | (apply lW; first | apply W.seq | apply W.region | apply W.skip | (refine Zbg ?_) | (refine Zba ?_; intro w hs)))
 all_goals first | exact ret_eq hs rfl | contradiction | exact Zy
end Go.Proofs.YtbinaeemcidicaaGreatDoor
namespace Go.PB
open Go.RowKit
section
variable {P : Program} {M : List Nat} {w0 : World} {n : Nat} {D : List Deferred} {L : List (Nat × Value)} {H : List Ent}
end
end Go.PB
namespace Go.Proofs.YtbinaeemcidicaaGreatDoor
open Go.PB Go.RowKit
attribute [local irreducible] Go.Calls
def spotO (L : List Ti) (o : Option (List Pt)) (l' : List Ti) : Int × Int := match o with
 | none => (220, endP L (L.length - l'.length))
 | some ps => match (putP (.mk 1 [] [] 0 0 ps) 0 0 none).2 with
  | none => (0, 0)
  | some y => (3, y)
theorem RdX.room {R : List Ent} {p : Option Addr} {n c : Nat} {xs : List Value} (h : RdX R (.slice p n c) n xs) : (n ≤ c ∨ n = 0) ∧ (p = none → n = 0) := by
 rcases h with ⟨p', c', h1, h2⟩ | ⟨b', off', c', arr, et, fr, wr, h1, h2, h3, h4⟩
 ·exact ⟨.inr h2, fun _ => h2⟩
 ·cases h1
  exact ⟨.inl h3, fun e => by cases e⟩
theorem own_tok {T : List Tk} {o : Ow} {H : List Ent} (h : ownOk T.length 5 (tksC T) o) (hm : ∀ p ∈ ownH 67 o, p ∈ H) : RdX H (ownV T.length o) T.length (tisC (T.map tiOf)) := by
 rw [tisC_of]
 exact RdX.own h hm
theorem spot_zero {L : List Ti} {o : Option (List Pt)} {l' : List Ti} {a : Int} (h : spotO L o l' = (0, a)) : ∃ ps, o = some ps ∧ hgtL ps ≤ 32 := by
 unfold spotO at h
 cases o with
 | none => cases h
 | some ps =>
  dsimp only at h
  obtain ⟨q, hq⟩ : ∃ q, (putP (.mk 1 [] [] 0 0 ps) 0 0 none).2 = q := ⟨_, rfl⟩
  rw [hq] at h
  cases q with
  | none => exact ⟨ps, rfl, put_none.1 hq⟩
  | some y => cases h
end Go.Proofs.YtbinaeemcidicaaGreatDoor
