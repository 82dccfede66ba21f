/- Walks: whether what a node says may be; whether an else would belong into a statement. No condition. -/
import Derived.Test.YtbinaeemcidicaaGreatDoorZVQ
import Derived.Test.YtbinaeemcidicaaGreatDoorZYJ
import Derived.Test.YtbinaeemcidicaaGreatDoorZED
import Derived.Test.YtbinaeemcidicaaGreatDoorZVN
set_option maxRecDepth 100000
set_option maxHeartbeats 16000000
namespace Go.Proofs.YtbinaeemcidicaaGreatDoor
open Go.PB Go.RowKit
attribute [local irreducible] Go.Calls
section
variable {kd nm pl : Int} {ty tx : List UInt8} {kv : Value} {ks : List Int} {loc wide : Bool}
theorem said_int (w : World) (hk : kd = 20) (hpl : 0 ≤ pl) : Calls Tryz.prog 70 #[.agg (ndM kd [] tx nm kv pl).toArray, .bool loc, .bool wide] w (Give (.bool (tx.isEmpty && decide (nm % 65536 = 0) && decide (-2147483648 < nm) && (wide || decide (0 ≤ nm)))) w) := by
 have hty : ∀ w, Calls Tryz.prog 90 #[st []] w (Give (.bool false) w) := fun w => type_ok [] w
 subst hk
 refine give_of_W (vs := [.agg (ndM 20 [] tx nm kv pl).toArray, .bool loc, .bool wide]) Tryz.func70 rfl Tryz.ntmps70 (Nat.le_of_ble_eq_true rfl) (St.nil w _) ?_
 simp only [argL]
 have he : tx.isEmpty = decide (tx = []) := by cases tx <;> rfl
 rw [he]
 by_cases h0 : tx = []
 rotate_left
 ·rw [decide_eq_false h0]
  by_cases hn : nm = 0
  ·subst hn
   repeat' (first | (apply gL; first | (apply Wl.ev rfl rfl; exact Zcw) | (refine Zfn ?_; refine wl_box rfl rfl rfl rfl ?_; intro nb) | (refine Zfl ?_; refine wl_call0 rfl rfl has90 rfl Zb8 ?_) | apply Wl.nil | (refine Zbr ?_)) | (apply gQ; first | (apply Wq.ev rfl rfl; exact Zcw)) | (apply lW; first | apply W.seq | apply W.region | apply W.block | apply W.skip | (refine Zbk ?_) | (refine Zbg ?_) | (refine Zz ?_ ?_ <;> (intro h; try exact Za)) | (refine Zba ?_; intro w hs)))
   all_goals first | exact ret_eq hs rfl | contradiction | exact Zy
  ·repeat' (first | (apply gL; first | (apply Wl.ev rfl rfl; exact Zcw) | (refine Zfn ?_; refine wl_box rfl rfl rfl rfl ?_; intro nb) | (refine Zfl ?_; refine wl_call0 rfl rfl has90 rfl Zb8 ?_) | apply Wl.nil | (refine Zbr ?_) | ((fail_if_success (apply Wl.chk rfl)); refine Wl.split rfl rfl ?_ ?_ <;> (intro h; try exact Za))) | (apply gQ; first | (apply Wq.ev rfl rfl; exact Zcw)) | (apply lW; first | apply W.seq | apply W.region | apply W.block | apply W.skip | (refine Zbk ?_) | (refine Zbg ?_) | (refine Zz ?_ ?_ <;> (intro h; try exact Za)) | (refine Zba ?_; intro w hs)))
   all_goals first | exact ret_eq hs rfl | contradiction | exact Zy
 subst h0
 by_cases h1 : nm % 65536 = 0
 rotate_left
 ·rw [decide_eq_false h1]
  have hn : ¬nm = 0 := by omega
  repeat' (first | (apply gL; first | (apply Wl.ev rfl rfl; exact Zeq) | (refine Zfn ?_; refine wl_box rfl rfl rfl rfl ?_; intro nb) | (refine Zfl ?_; refine wl_call0 rfl rfl has90 rfl Zb8 ?_) | apply Wl.nil | (refine Zbr ?_) | ((fail_if_success (apply Wl.chk rfl)); refine Wl.split rfl rfl ?_ ?_ <;> (intro h; try exact Za))) | (apply gQ; first | (apply Wq.ev rfl rfl; exact Zeq)) | (apply lW; first | apply W.seq | apply W.region | apply W.block | apply W.skip | (refine Zbk ?_) | (refine Zbg ?_) | (refine Zz ?_ ?_ <;> (intro h; try exact Za)) | (refine Zba ?_; intro w hs)))
  all_goals first | exact ret_eq hs (congrArg Value.bool Zgh) | contradiction | exact Zy
 by_cases h2 : -2147483648 < nm
 rotate_left
 ·rw [decide_eq_false h2]
  have hn : ¬nm = 0 := by omega
  repeat' (first | (apply gL; first | (apply Wl.ev rfl rfl; exact Zcp) | (refine Zfn ?_; refine wl_box rfl rfl rfl rfl ?_; intro nb) | (refine Zfl ?_; refine wl_call0 rfl rfl has90 rfl Zb8 ?_) | apply Wl.nil | (refine Zbr ?_) | ((fail_if_success (apply Wl.chk rfl)); refine Wl.split rfl rfl ?_ ?_ <;> (intro h; try exact Za))) | (apply gQ; first | (apply Wq.ev rfl rfl; exact Zcp)) | (apply lW; first | apply W.seq | apply W.region | apply W.block | apply W.skip | (refine Zbk ?_) | (refine Zbg ?_) | (refine Zz ?_ ?_ <;> (intro h; try exact Za)) | (refine Zba ?_; intro w hs)))
  all_goals first | exact ret_eq hs (congrArg Value.bool Zgh) | contradiction | exact Zy
 rw [decide_eq_true h1, decide_eq_true h2]
 by_cases hn : nm = 0
 ·subst hn
  cases wide
  all_goals
   repeat' (first | (apply gL; first | (apply Wl.ev rfl rfl; exact Zfy) | (refine Zfn ?_; refine wl_box rfl rfl rfl rfl ?_; intro nb) | (refine Zfl ?_; refine wl_call0 rfl rfl has90 rfl Zb8 ?_) | apply Wl.nil | (refine Zbr ?_)) | (apply gQ; first | (apply Wq.ev rfl rfl; exact Zfy)) | (apply lW; first | apply W.seq | apply W.region | apply W.block | apply W.skip | (refine Zbk ?_) | (refine Zbg ?_) | (refine Zz ?_ ?_ <;> (intro h; try exact Za)) | (refine Zba ?_; intro w hs)))
   all_goals first | exact ret_eq hs rfl | contradiction | exact Zy
 ·cases wide
  all_goals
   repeat' (first | (apply gL; first | (apply Wl.ev rfl rfl; exact Zcp) | (refine Zfn ?_; refine wl_box rfl rfl rfl rfl ?_; intro nb) | (refine Zfl ?_; refine wl_call0 rfl rfl has90 rfl Zb8 ?_) | apply Wl.nil | (refine Zbr ?_) | ((fail_if_success (apply Wl.chk rfl)); refine Wl.split rfl rfl ?_ ?_ <;> (intro h; try exact Za))) | (apply gQ; first | (apply Wq.ev rfl rfl; exact Zcp)) | (apply lW; first | apply W.seq | apply W.region | apply W.block | apply W.skip | (refine Zbk ?_) | (refine Zbg ?_) | (refine Zz ?_ ?_ <;> (intro h; try exact Za)) | (refine Zba ?_; intro w hs)))
   all_goals first | exact ret_eq hs rfl | contradiction | exact Zy
theorem said_flt (w : World) (hk : kd = 21) (hpl : 0 ≤ pl) : Calls Tryz.prog 70 #[.agg (ndM kd [] tx nm kv pl).toArray, .bool loc, .bool wide] w (Give (.bool (tx.isEmpty && decide (0 ≤ nm))) w) := by
 have hty : ∀ w, Calls Tryz.prog 90 #[st []] w (Give (.bool false) w) := fun w => type_ok [] w
 subst hk
 refine give_of_W (vs := [.agg (ndM 21 [] tx nm kv pl).toArray, .bool loc, .bool wide]) Tryz.func70 rfl Tryz.ntmps70 (Nat.le_of_ble_eq_true rfl) (St.nil w _) ?_
 simp only [argL]
 have he : tx.isEmpty = decide (tx = []) := by cases tx <;> rfl
 rw [he]
 by_cases h0 : tx = []
 ·subst h0
  repeat' (first | (apply gL; first | (apply Wl.ev rfl rfl; exact Zev) | (refine Zfn ?_; refine wl_box rfl rfl rfl rfl ?_; intro nb) | (refine Zfl ?_; refine wl_call0 rfl rfl has90 rfl Zb8 ?_) | apply Wl.nil | (refine Zbr ?_) | ((fail_if_success (apply Wl.chk rfl)); refine Wl.split rfl rfl ?_ ?_ <;> (intro h; try exact Za))) | (apply gQ; first | (apply Wq.ev rfl rfl; exact Zev)) | (apply lW; first | apply W.seq | apply W.region | apply W.block | apply W.skip | (refine Zbk ?_) | (refine Zbg ?_) | (refine Zz ?_ ?_ <;> (intro h; try exact Za)) | (refine Zba ?_; intro w hs)))
  all_goals first | exact ret_eq hs rfl | contradiction | exact Zy
 ·rw [decide_eq_false h0]
  repeat' (first | (apply gL; first | (apply Wl.ev rfl rfl; exact Zcw) | (refine Zfn ?_; refine wl_box rfl rfl rfl rfl ?_; intro nb) | (refine Zfl ?_; refine wl_call0 rfl rfl has90 rfl Zb8 ?_) | apply Wl.nil | (refine Zbr ?_) | ((fail_if_success (apply Wl.chk rfl)); refine Wl.split rfl rfl ?_ ?_ <;> (intro h; try exact Za))) | (apply gQ; first | (apply Wq.ev rfl rfl; exact Zcw)) | (apply lW; first | apply W.seq | apply W.region | apply W.block | apply W.skip | (refine Zbk ?_) | (refine Zbg ?_) | (refine Zz ?_ ?_ <;> (intro h; try exact Za)) | (refine Zba ?_; intro w hs)))
  all_goals first | exact ret_eq hs rfl | contradiction | exact Zy
theorem said_oth (w : World) (hk : kd < 1 ∨ 22 < kd) (hpl : 0 ≤ pl) : Calls Tryz.prog 70 #[.agg (ndM kd [] tx 0 kv pl).toArray, .bool loc, .bool wide] w (Give (.bool false) w) := by
 have hty : ∀ w, Calls Tryz.prog 90 #[st []] w (Give (.bool false) w) := fun w => type_ok [] w
 refine give_of_W (vs := [.agg (ndM kd [] tx 0 kv pl).toArray, .bool loc, .bool wide]) Tryz.func70 rfl Tryz.ntmps70 (Nat.le_of_ble_eq_true rfl) (St.nil w _) ?_
 simp only [argL]
 repeat' (first | (apply gL; first | (apply Wl.ev rfl rfl; exact Zfd) | (refine Zfn ?_; refine wl_box rfl rfl rfl rfl ?_; intro nb) | (refine Zfl ?_; refine wl_call0 rfl rfl has90 rfl Zb8 ?_) | apply Wl.nil | (refine Zbr ?_)) | (apply gQ; first | (apply Wq.ev rfl rfl; exact Zfd)) | (apply lW; first | apply W.seq | apply W.region | apply W.block | apply W.blk | apply W.skip | (refine Zbg ?_) | (refine Zz ?_ ?_ <;> (intro h; try exact Za)) | (refine Zba ?_; intro w hs)))
 all_goals first | exact ret_eq hs rfl | contradiction | exact Zy
theorem saidA_yes (h : saidA ⟨kd, ty, tx, nm, ks, pl⟩ = true) : 0 ≤ pl ∧ (nm ≠ 0 → kd = 20 ∨ kd = 21) ∧ ((kd = 2 ∨ kd = 4 ∨ kd = 5) → isTyp ty = true) ∧ (¬(kd = 2 ∨ kd = 4 ∨ kd = 5) → ty = []) := by
 unfold saidA at h
 simp only [Bool.and_eq_true, decide_eq_true_eq, beq_iff_eq, Bool.or_eq_true, List.isEmpty_iff] at h
 obtain ⟨⟨⟨a1, a2⟩, a3⟩, a4⟩ := h
 refine ⟨a3, fun hn => ?_, fun hk => ?_, fun hk => ?_⟩
 ·rcases a4 with (a4 | a4) | a4
  ·exact absurd a4 hn
  ·exact .inl a4
  ·exact .inr a4
 ·rw [← a1]
  simp only [Bool.or_eq_true, decide_eq_true_eq]
  omega
 ·rcases a2 with a2 | a2
  ·exact absurd Zf7 hk
  ·exact a2
theorem said_ok (w : World) : Calls Tryz.prog 70 #[.agg (ndM kd ty tx nm kv pl).toArray, .bool loc, .bool wide] w (Give (.bool (saidK ⟨kd, ty, tx, nm, ks, pl⟩ loc wide)) w) := by
 cases hA : saidA ⟨kd, ty, tx, nm, ks, pl⟩ with
 | false =>
  have e : saidK ⟨kd, ty, tx, nm, ks, pl⟩ loc wide = false := by unfold saidK; rw [hA]; rfl
  rw [e]
  exact said_no (ks := ks) w hA
 | true =>
 have e : saidK ⟨kd, ty, tx, nm, ks, pl⟩ loc wide = saidT ⟨kd, ty, tx, nm, ks, pl⟩ loc wide := by unfold saidK; rw [hA]; rfl
 rw [e]
 obtain ⟨h1, h2, h3, h4⟩ := saidA_yes hA
 clear hA e
 have hn0 : kd ≠ 20 → kd ≠ 21 → nm = 0 := fun a b => Decidable.byContradiction fun h => (h2 h).elim a b
 have hem : tx.isEmpty = decide (tx = []) := by cases tx <;> rfl
 by_cases c1 : kd = 1 ∨ kd = 6 ∨ kd = 7 ∨ kd = 9 ∨ kd = 10 ∨ kd = 11 ∨ kd = 12 ∨ kd = 14
 ·obtain rfl := hn0 Zf7 Zf7
  obtain rfl := h4 Zf7
  unfold saidT
  rw [if_pos c1, hem]
  exact said_txt w c1 h1
 by_cases c2 : kd = 2
 ·obtain rfl := hn0 Zf7 Zf7
  unfold saidT
  rw [if_neg c1, if_pos c2]
  exact said_decl w c2 h1 (h3 Zf7)
 by_cases c3 : kd = 3 ∨ kd = 4 ∨ kd = 5 ∨ kd = 8 ∨ kd = 18 ∨ kd = 19
 ·obtain rfl := hn0 Zf7 Zf7
  unfold saidT
  rw [if_neg c1, if_neg c2, if_pos c3]
  by_cases c4 : kd = 4 ∨ kd = 5
  ·exact said_namT w c4 h1 (h3 Zf7)
  ·obtain rfl := h4 Zf7
   exact said_nam w Zf7 h1
 have hty := h4 Zf7
 subst hty
 by_cases c5 : kd = 17
 ·obtain rfl := hn0 Zf7 Zf7
  unfold saidT
  rw [if_neg c1, if_neg c2, if_neg c3, if_pos c5]
  exact said_call w c5 h1
 by_cases c6 : kd = 13
 ·obtain rfl := hn0 Zf7 Zf7
  unfold saidT
  rw [if_neg c1, if_neg c2, if_neg c3, if_neg c5, if_pos c6]
  exact said_asg w c6 h1
 by_cases c7 : kd = 16
 ·obtain rfl := hn0 Zf7 Zf7
  unfold saidT
  rw [if_neg c1, if_neg c2, if_neg c3, if_neg c5, if_neg c6, if_pos c7]
  exact said_un w c7 h1
 by_cases c8 : kd = 15
 ·obtain rfl := hn0 Zf7 Zf7
  unfold saidT
  rw [if_neg c1, if_neg c2, if_neg c3, if_neg c5, if_neg c6, if_neg c7, if_pos c8]
  exact said_bin w c8 h1
 by_cases c9 : kd = 20
 ·unfold saidT
  rw [if_neg c1, if_neg c2, if_neg c3, if_neg c5, if_neg c6, if_neg c7, if_neg c8, if_pos c9]
  exact said_int w c9 h1
 by_cases c10 : kd = 21
 ·unfold saidT
  rw [if_neg c1, if_neg c2, if_neg c3, if_neg c5, if_neg c6, if_neg c7, if_neg c8, if_neg c9, if_pos c10]
  exact said_flt w c10 h1
 obtain rfl := hn0 c9 c10
 by_cases c11 : kd = 22
 ·unfold saidT
  rw [if_neg c1, if_neg c2, if_neg c3, if_neg c5, if_neg c6, if_neg c7, if_neg c8, if_neg c9, if_neg c10, if_pos c11]
  exact said_boo w c11 h1
 ·unfold saidT
  rw [if_neg c1, if_neg c2, if_neg c3, if_neg c5, if_neg c6, if_neg c7, if_neg c8, if_neg c9, if_neg c10, if_neg c11]
  exact said_oth w Zf7 h1
end
end Go.Proofs.YtbinaeemcidicaaGreatDoor
namespace Go.PB
open Go.RowKit
section
variable {P : Program} {Z : Exit → Act → World → Prop} {M : List Nat} {w0 : World} {n : Nat} {D : List Deferred} {L : List (Nat × Value)} {H H1 H2 : List Ent} {k : List Kt} {fn : Func} {R : Ending → World → Prop}
theorem callsD_of_W {f : FuncId} {c : Code} {vs : List Value} {w : World} {u : FrameMode} (hf : P.funcs[f]? = some fn) (hb : fn.body = some c) (hn : fn.ntmps = n) (hl : vs.length ≤ n) (hs : St M w w H)
  (h : W P (bodyPost P fn R) M w n [] [.inl c] (argL 0 vs) H) : CallsD P f vs.toArray u w fun e u' w' => u' = u ∧ R e w' := by
 refine callsD_of_wp hf hb ?_
 unfold W at h
 refine h _ _ ⟨?_, rfl, fun i v hi => ?_⟩ hs
 ·simp; omega
 ·obtain ⟨_, h2⟩ := look_argL hi
  simp only [Nat.sub_zero] at h2
  have hlt := (List.getElem?_eq_some_iff.1 h2).1
  rw [Array.getElem?_append_left (by simpa using hlt)]
  simpa using h2
abbrev dfr (f : FuncId) (cs : List Value) : Deferred := { target := .fn (.func f) cs.toArray, args := #[] }
theorem leaves_fn {tmps : Array Value} {f : FuncId} {cs : List Value} {w : World} (hh : Has P f) (h : CallsD P f cs.toArray .returning w fun e u' w' => u' = .returning ∧ (∃ v, e = .returned v) ∧ Leaves P fn tmps R D .returning w') :
  Leaves P fn tmps R (dfr f cs :: D) .returning w := by
 obtain ⟨fn', c, h1, h2, h3⟩ := hh
 refine leaves_cons (f := f) (args := cs.toArray) (by intro h; cases h) ?_ (h.mono fun e u' w' hR => ?_)
 ·simp [invoke, run_callFunc h1 h2 h3]
 ·obtain ⟨rfl, ⟨v, rfl⟩, hr⟩ := hR
  exact hr
def DefC (P : Program) (f : FuncId) (cs : List Value) (M : List Nat) (w0 : World) (H H1 : List Ent) : Prop := ∀ w, St M w0 w H → CallsD P f cs.toArray .returning w fun e u' w' => u' = .returning ∧ (∃ v, e = .returned v) ∧ St M w0 w' H1
theorem W.ret1N {p : Tmp} {v : Value} (hr : fn.results = #[.tmp p]) (hv : look L p = some v) (h : ∀ w, St M w0 w H → R (.returned v) w) : W P (bodyPostD P fn R) M w0 n [] (.inl .ret :: k) L H :=
 W.ret fun a w hf hst => by
  show Leaves P fn a.tmps R a.defers .returning w
  rw [hf.defers]
  exact ⟨v, by simp [results, hr, hf.has p _ hv], h w hst⟩
theorem W.ret1D {p : Tmp} {v : Value} {f : FuncId} {cs : List Value} (hh : Has P f) (hc : DefC P f cs M w0 H H1) (hr : fn.results = #[.tmp p]) (hv : look L p = some v) (h : ∀ w, St M w0 w H1 → R (.returned v) w) :
  W P (bodyPostD P fn R) M w0 n [dfr f cs] (.inl .ret :: k) L H :=
 W.ret fun a w hf hst => by
  show Leaves P fn a.tmps R a.defers .returning w
  rw [hf.defers]
  refine leaves_fn hh ((hc w hst).mono fun e u' w' hR => ⟨hR.1, hR.2.1, ?_⟩)
  exact ⟨v, by simp [results, hr, hf.has p _ hv], h w' hR.2.2⟩
theorem W.ret1DD {p : Tmp} {v : Value} {f f2 : FuncId} {cs cs2 : List Value} (hh2 : Has P f2) (hh : Has P f) (hc2 : DefC P f2 cs2 M w0 H H1) (hc : DefC P f cs M w0 H1 H2) (hr : fn.results = #[.tmp p]) (hv : look L p = some v) (h : ∀ w, St M w0 w H2 → R (.returned v) w) :
  W P (bodyPostD P fn R) M w0 n [dfr f2 cs2, dfr f cs] (.inl .ret :: k) L H :=
 W.ret fun a w hf hst => by
  show Leaves P fn a.tmps R a.defers .returning w
  rw [hf.defers]
  refine leaves_fn hh2 ((hc2 w hst).mono fun e u' w' hR => ⟨hR.1, hR.2.1, ?_⟩)
  refine leaves_fn hh ((hc w' hR.2.2).mono fun e u' w' hR => ⟨hR.1, hR.2.1, ?_⟩)
  exact ⟨v, by simp [results, hr, hf.has p _ hv], h w' hR.2.2⟩
end
end Go.PB
namespace Go.Proofs.YtbinaeemcidicaaGreatDoor
open Go.PB Go.RowKit
attribute [local irreducible] Go.Calls
abbrev ckO (lv : Value) (deep depth : Int) (loc : Bool) : Obj := row [lv, .int .i64 deep, .int .i64 depth, .bool loc] 87
theorem dec_ok {M : List Nat} {w0 : World} {A : List Ent} {b3 cb d : Nat} {lv : Value} {depth : Int} {loc : Bool} (hd : d ≤ 100) :
  DefC Tryz.prog 71 [ptr b3] M w0 (⟨b3, true, row [ptr cb] 85⟩ :: ⟨cb, true, ckO lv ((d : Nat) + 1) depth loc⟩ :: A) (⟨b3, true, row [ptr cb] 85⟩ :: ⟨cb, true, ckO lv (d : Nat) depth loc⟩ :: A) := by
 intro w hst
 refine (callsD_of_W (vs := [ptr b3]) (R := GivesS (fun _ : Unit => .tuple #[]) (fun _ => True) M w0 fun _ => ⟨b3, true, row [ptr cb] 85⟩ :: ⟨cb, true, ckO lv (d : Nat) depth loc⟩ :: A) Tryz.func71 rfl Tryz.ntmps71 (Nat.le_of_ble_eq_true rfl) hst.fromHere ?_).mono fun e u' w' hR => ?_
 ·simp only [argL]
  repeat' (first | (apply gL; first | (apply Wl.ev rfl rfl; exact Zer) | apply Wl.nil | (refine Wl.skip0 rfl ?_) | (refine Zgb ?_) | (refine Zf9 ?_; try simp only [List.set])) | (apply gQ; first | (apply Wq.ev rfl rfl; exact Zer) | apply Wq.nil) | (apply lW; first | apply W.seq | (refine Zgf ?_) | apply W.region | apply W.block | apply W.blk | apply W.skip | apply W.scp | apply W.label | apply W.scope0 | (refine Zcm ?_) | (refine Zbk ?_) | (refine Zbg ?_) | (refine Zz ?_ ?_ <;> (intro h; try exact Za)) | (refine Zfs ?_ ?_ <;> (intro h; try exact Zb2)) | (refine W.ret0 rfl ?_; intro w hs) | (refine Zdl ?_; intro w hs)))
  all_goals first | exact GivesS.of hst hs () trivial rfl (List.Sublist.refl _) | contradiction
 ·obtain ⟨hu, _, _, he, hs⟩ := hR
  exact ⟨hu, ⟨_, he⟩, hs⟩
theorem out_ok {M : List Nat} {w0 : World} {A : List Ent} {b3 cb : Nat} {lv : Value} {deep depth : Int} {loc : Bool} :
  DefC Tryz.prog 72 [ptr b3] M w0 (⟨b3, true, row [ptr cb] 85⟩ :: ⟨cb, true, ckO lv deep depth loc⟩ :: A) (⟨b3, true, row [ptr cb] 85⟩ :: ⟨cb, true, ckO lv deep depth false⟩ :: A) := by
 intro w hst
 refine (callsD_of_W (vs := [ptr b3]) (R := GivesS (fun _ : Unit => .tuple #[]) (fun _ => True) M w0 fun _ => ⟨b3, true, row [ptr cb] 85⟩ :: ⟨cb, true, ckO lv deep depth false⟩ :: A) Tryz.func72 rfl Tryz.ntmps72 (Nat.le_of_ble_eq_true rfl) hst.fromHere ?_).mono fun e u' w' hR => ?_
 ·simp only [argL]
  repeat' (first | (apply gL; first | (apply Wl.ev rfl rfl; exact Zev) | apply Wl.nil | (refine Wl.skip0 rfl ?_) | (refine Zgb ?_) | (refine Zf9 ?_; try simp only [List.set])) | (apply gQ; first | (apply Wq.ev rfl rfl; exact Zev) | apply Wq.nil) | (apply lW; first | apply W.seq | (refine Zgf ?_) | apply W.region | apply W.block | apply W.blk | apply W.skip | apply W.scp | apply W.label | apply W.scope0 | (refine Zcm ?_) | (refine Zbk ?_) | (refine Zbg ?_) | (refine Zz ?_ ?_ <;> (intro h; try exact Za)) | (refine Zfs ?_ ?_ <;> (intro h; try exact Zb2)) | (refine W.ret0 rfl ?_; intro w hs) | (refine Zdl ?_; intro w hs)))
  all_goals first | exact GivesS.of hst hs () trivial rfl (List.Sublist.refl _) | contradiction
 ·obtain ⟨hu, _, _, he, hs⟩ := hR
  exact ⟨hu, ⟨_, he⟩, hs⟩
theorem chkK_get {f : Bool → Nat → Option (Pt × Nat)} {l : List Nd} : ∀ {ws : List Nat} {ks : List Int} {nx : Nat} {qs : List Pt} {nx' : Nat}, ws.length = ks.length → chkK f l ws ks nx = some (qs, nx') →
  qs.length = ks.length ∧ ∀ j, j < ks.length → ∃ (i : Nat) (m : Nat), ks.getD j 0 = (i : Int) ∧ f (decide (ws.getD j 0 = 6)) i = some (qs.getD j pt0, m)
 | [], [], nx, qs, nx', _, h => by
  rw [chkK] at h
  ·cases h
   exact ⟨rfl, fun j hj => by cases hj⟩
  ·simp
 | [], k :: ks, nx, qs, nx', hl, h => by simp at hl
 | w :: ws, [], nx, qs, nx', hl, h => by simp at hl
 | w :: ws, k :: ks, nx, qs, nx', hl, h => by
  rw [chkK] at h
  split at h
  ·cases h
  ·rename_i hc
   simp only [not_or, Decidable.not_not] at hc
   obtain ⟨hk, hlt, hfit⟩ := hc
   cases hq : f (decide (w = 6)) nx with
   | none => rw [hq] at h; cases h
   | some p =>
    obtain ⟨q, n1⟩ := p
    rw [hq] at h
    dsimp only at h
    cases hr : chkK f l ws ks n1 with
    | none => rw [hr] at h; cases h
    | some r =>
     obtain ⟨qs1, n2⟩ := r
     rw [hr] at h
     cases h
     obtain ⟨h1, h2⟩ := chkK_get (by simpa using hl) hr
     refine ⟨by simp [h1], fun j hj => ?_⟩
     cases j with
     | zero => exact ⟨nx, n1, hk, hq⟩
     | succ j =>
      simp only [List.getD_cons_succ]
      exact h2 j Zmg
theorem chkN_get {l : List Nd} {b : Nat} {loc wide : Bool} {i nx : Nat} {q : Pt} (h : chkN l b loc wide i = some (q, nx)) :
  ∃ c ws qs, b = c + 1 ∧ i < l.length ∧ kindsK (l.getD i nd0).kd (l.getD i nd0).ks.length = some ws ∧ saidK (l.getD i nd0) loc wide = true ∧ chkK (chkN l c (loc || decide ((l.getD i nd0).kd = 4))) l ws (l.getD i nd0).ks (i + 1) = some (qs, nx) ∧ lastK (l.getD i nd0) qs = false ∧
   q = .mk (l.getD i nd0).kd (l.getD i nd0).ty (l.getD i nd0).tx (l.getD i nd0).nm (l.getD i nd0).pl qs := by
 cases b with
 | zero => rw [chkN] at h; cases h
 | succ c =>
  rw [chkN] at h
  split at h
  ·cases h
  ·rename_i hlt
   dsimp only at h
   cases hk : kindsK (l.getD i nd0).kd (l.getD i nd0).ks.length with
   | none => rw [hk] at h; cases h
   | some ws =>
    rw [hk] at h
    dsimp only at h
    split at h
    ·cases h
    ·rename_i hs
     cases hc : chkK (chkN l c (loc || decide ((l.getD i nd0).kd = 4))) l ws (l.getD i nd0).ks (i + 1) with
     | none => rw [hc] at h; cases h
     | some r =>
      obtain ⟨qs, n2⟩ := r
      rw [hc] at h
      dsimp only at h
      split at h
      ·cases h
      ·rename_i hl
       cases h
       exact ⟨c, ws, qs, rfl, by omega, rfl, by simpa using hs, hc, by simpa using hl, rfl⟩
theorem kinds_len {kd : Int} {k : Nat} {ws : List Nat} (h : kindsK kd k = some ws) : ws.length = k := by
 have key : ∀ {p : Prop} [Decidable p] {a b : Option (List Nat)}, (if p then a else b) = some ws → (p → a = some ws → ws.length = k) → (¬p → b = some ws → ws.length = k) → ws.length = k := fun {p} _ {a b} h h1 h2 => by
  by_cases hp : p
  ·rw [if_pos hp] at h; exact h1 hp h
  ·rw [if_neg hp] at h; exact h2 hp h
 have all : ∀ {m x : Nat}, some (List.replicate m x) = some ws → ws.length = m := fun h => by cases h; simp
 have no : ∀ {q : Prop}, ¬q → (none : Option (List Nat)) = some ws → ws.length = k := fun _ h => by cases h
 unfold kindsK at h
 refine key h (fun _ => all) fun _ h => ?_
 refine key h (fun _ h => key h (fun _ => all) no) fun _ h => ?_
 refine key h (fun _ h => key h (fun _ => all) no) fun _ h => ?_
 refine key h (fun _ h => key h (fun _ h => by cases h) fun h0 h => by cases h; simp; omega) fun _ h => ?_
 refine key h (fun _ => all) fun _ h => ?_
 refine key h (fun _ h => key h (fun h0 h => by rcases h0 with rfl | rfl <;> (cases h; rfl)) no) fun _ h => ?_
 refine key h (fun _ h => key h (fun h0 h => by cases h; exact h0.symm) no) fun _ h => ?_
 refine key h (fun _ h => key h (fun _ => all) no) fun _ h => ?_
 refine key h (fun _ h => key h (fun _ => all) no) fun _ h => ?_
 refine key h (fun _ h => key h (fun _ => all) no) fun _ h => ?_
 refine key h (fun _ => all) fun _ h => ?_
 exact key h (fun h0 h => by cases h; exact h0.symm) no
end Go.Proofs.YtbinaeemcidicaaGreatDoor
