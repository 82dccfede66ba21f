/- Walks: whether what a node says may be. No condition. -/
import Derived.Test.YtbinaeemcidicaaGreatDoorZVP
import Derived.Test.YtbinaeemcidicaaGreatDoorZVF
set_option maxRecDepth 100000
set_option maxHeartbeats 16000000
namespace Go.Proofs.YtbinaeemcidicaaGreatDoor
open Go.PB Go.RowKit
attribute [local irreducible] Go.Calls
section
variable {kd nm pl : Int} {ty tx : List UInt8} {kv : Value} {ks : List Int} {loc wide : Bool}
theorem saidA_no (h : saidA ⟨kd, ty, tx, nm, ks, pl⟩ = false) : ∃ T : Bool, (T = true ↔ kd = 2 ∨ kd = 4 ∨ kd = 5) ∧
  (T ≠ isTyp ty ∨ (T = isTyp ty ∧ T = false ∧ ty ≠ []) ∨ (T = isTyp ty ∧ (T = true ∨ ty = []) ∧ pl < 0) ∨ (T = isTyp ty ∧ (T = true ∨ ty = []) ∧ 0 ≤ pl ∧ nm ≠ 0 ∧ kd ≠ 20 ∧ kd ≠ 21)) := by
 unfold saidA at h
 dsimp only at h
 refine ⟨decide (kd = 2) || decide (kd = 4) || decide (kd = 5), by simp [or_assoc], ?_⟩
 obtain ⟨T, hT⟩ : ∃ T, (decide (kd = 2) || decide (kd = 4) || decide (kd = 5)) = T := ⟨_, rfl⟩
 rw [hT] at h ⊢
 by_cases h1 : T = isTyp ty
 ·refine .inr ?_
  by_cases h2 : T = false ∧ ty ≠ []
  ·exact .inl ⟨h1, h2⟩
  ·have h2' : T = true ∨ ty = [] := by
    cases T with
    | true => exact .inl rfl
    | false => exact .inr (Decidable.byContradiction fun hn => h2 ⟨rfl, hn⟩)
   refine .inr ?_
   by_cases h3 : pl < 0
   ·exact .inl ⟨h1, h2', h3⟩
   ·refine .inr ⟨h1, h2', by omega, ?_⟩
    have e1 : (T == isTyp ty) = true := by rw [h1]; simp
    have e2 : (T || ty.isEmpty) = true := by
     rcases h2' with h | h
     ·rw [h]; rfl
     ·rw [h]; simp
    have e3 : decide (0 ≤ pl) = true := decide_eq_true Zf7
    rw [e1, e2, e3] at h
    simp only [Bool.true_and, Bool.or_eq_false_iff, decide_eq_false_iff_not] at h
    exact ⟨h.1.1, h.1.2, h.2⟩
 ·exact .inl h1
theorem said_no (w : World) (hA : saidA ⟨kd, ty, tx, nm, ks, pl⟩ = false) : Calls Tryz.prog 70 #[.agg (ndM kd ty tx nm kv pl).toArray, .bool loc, .bool wide] w (Give (.bool false) w) := by
 obtain ⟨T, hT, h⟩ := saidA_no hA
 clear hA
 have hty : ∀ w, Calls Tryz.prog 90 #[st ty] w (Give (.bool (isTyp ty)) w) := type_ok ty
 obtain ⟨Y, hY⟩ : ∃ Y, isTyp ty = Y := ⟨_, rfl⟩
 rw [hY] at h hty
 refine give_of_W (vs := [.agg (ndM kd ty tx nm kv pl).toArray, .bool loc, .bool wide]) Tryz.func70 rfl Tryz.ntmps70 (Nat.le_of_ble_eq_true rfl) (St.nil w _) ?_
 simp only [argL]
 cases T with
 | true =>
  have hkd := hT.1 rfl
  rcases h with h | ⟨_, h, _⟩ | ⟨h1, _, h⟩ | ⟨h1, _, h2, h3, h4, h5⟩
  ·obtain rfl : Y = false := by cases Y; rfl; exact absurd rfl h
   rcases hkd with rfl | rfl | rfl
   all_goals (
    repeat' (first | (apply gL; first | (apply Wl.ev rfl rfl; exact Zev) | (refine Zfn ?_; refine wl_box rfl rfl rfl rfl ?_; intro nb) | (refine Zfl ?_; refine wl_call0 rfl rfl has90 rfl Zb8 ?_) | apply Wl.nil | (refine Zbr ?_)) | (apply gQ; first | (apply Wq.ev rfl rfl; exact Zev)) | (apply lW; first | apply W.seq | apply W.region | (refine Zbk ?_) | (refine Zba ?_; intro w hs)))
    all_goals first | exact ret_eq hs rfl | contradiction | exact Zy | fail)
  ·cases h
  ·subst h1
   rcases hkd with rfl | rfl | rfl
   all_goals (
    repeat' (first | (apply gL; first | (apply Wl.ev rfl rfl; exact Zev) | (refine Zfn ?_; refine wl_box rfl rfl rfl rfl ?_; intro nb) | (refine Zfl ?_; refine wl_call0 rfl rfl has90 rfl Zb8 ?_) | apply Wl.nil | (refine Zbr ?_)) | (apply gQ; first | (apply Wq.ev rfl rfl; exact Zev)) | (apply lW; first | apply W.seq | apply W.region | (refine Zz ?_ ?_ <;> (intro h; try exact Za)) | (refine Zba ?_; intro w hs)))
    all_goals first | exact ret_eq hs rfl | contradiction | exact Zy | fail)
  ·subst h1
   rcases hkd with rfl | rfl | rfl
   all_goals (
    repeat' (first | (apply gL; first | (apply Wl.ev rfl rfl; exact Zev) | (refine Zfn ?_; refine wl_box rfl rfl rfl rfl ?_; intro nb) | (refine Zfl ?_; refine wl_call0 rfl rfl has90 rfl Zb8 ?_) | apply Wl.nil | (refine Zbr ?_) | ((fail_if_success (apply Wl.chk rfl)); refine Wl.split rfl rfl ?_ ?_ <;> (intro h; try exact Za))) | (apply gQ; first | (apply Wq.ev rfl rfl; exact Zev)) | (apply lW; first | apply W.seq | apply W.region | apply W.skip | (refine Zbk ?_) | (refine Zz ?_ ?_ <;> (intro h; try exact Za)) | (refine Zba ?_; intro w hs)))
    all_goals first | exact ret_eq hs rfl | contradiction | exact Zy | fail)
 | false =>
  have hkd : ¬(kd = 2 ∨ kd = 4 ∨ kd = 5) := fun h => by cases hT.2 h
  have k2 : ¬kd = 2 := fun h => hkd (.inl h)
  have k4 : ¬kd = 4 := fun h => hkd (.inr (.inl h))
  have k5 : ¬kd = 5 := fun h => hkd (.inr (.inr h))
  rcases h with h | ⟨h1, _, h⟩ | ⟨h1, h0, h⟩ | ⟨h1, h0, h2, h3, h4, h5⟩
  ·obtain rfl : Y = true := by cases Y; exact absurd rfl h; rfl
   repeat' (first | (apply gL; first | (apply Wl.ev rfl rfl; exact Zbo) | (refine Zfn ?_; refine wl_box rfl rfl rfl rfl ?_; intro nb) | (refine Zfl ?_; refine wl_call0 rfl rfl has90 rfl Zb8 ?_) | apply Wl.nil | (refine Zbr ?_)) | (apply gQ; first | (apply Wq.ev rfl rfl; exact Zbo)) | (apply lW; first | apply W.seq | apply W.region | (refine Zbk ?_) | (refine Zba ?_; intro w hs)))
   all_goals first | exact ret_eq hs rfl | contradiction | exact Zy
  ·subst h1
   repeat' (first | (apply gL; first | (apply Wl.ev rfl rfl; exact Zdm) | (refine Zfn ?_; refine wl_box rfl rfl rfl rfl ?_; intro nb) | (refine Zfl ?_; refine wl_call0 rfl rfl has90 rfl Zb8 ?_) | apply Wl.nil | (refine Zbr ?_)) | (apply gQ; first | (apply Wq.ev rfl rfl; exact Zdm)) | (apply lW; first | apply W.seq | apply W.region | (refine Zbk ?_) | (refine Zba ?_; intro w hs)))
   all_goals first | exact ret_eq hs rfl | contradiction | exact Zy
  ·subst h1
   obtain rfl : ty = [] := h0.resolve_left Zf6
   repeat' (first | (apply gL; first | (apply Wl.ev rfl rfl; exact Zbo) | (refine Zfn ?_; refine wl_box rfl rfl rfl rfl ?_; intro nb) | (refine Zfl ?_; refine wl_call0 rfl rfl has90 rfl Zb8 ?_) | apply Wl.nil) | (apply gQ; first | (apply Wq.ev rfl rfl; exact Zbo)) | (apply lW; first | apply W.seq | apply W.region | (refine Zz ?_ ?_ <;> (intro h; try exact Za)) | (refine Zba ?_; intro w hs)))
   all_goals first | exact ret_eq hs rfl | contradiction | exact Zy
  ·subst h1
   obtain rfl : ty = [] := h0.resolve_left Zf6
   repeat' (first | (apply gL; first | (apply Wl.ev rfl rfl; exact Zbo) | (refine Zfn ?_; refine wl_box rfl rfl rfl rfl ?_; intro nb) | (refine Zfl ?_; refine wl_call0 rfl rfl has90 rfl Zb8 ?_) | apply Wl.nil | ((fail_if_success (apply Wl.chk rfl)); refine Wl.split rfl rfl ?_ ?_ <;> (intro h; try exact Za))) | (apply gQ; first | (apply Wq.ev rfl rfl; exact Zbo)) | (apply lW; first | apply W.seq | apply W.region | apply W.skip | (refine Zz ?_ ?_ <;> (intro h; try exact Za)) | (refine Zba ?_; intro w hs)))
   all_goals first | exact ret_eq hs rfl | contradiction | exact Zy
theorem said_txt (w : World) (hk : kd = 1 ∨ kd = 6 ∨ kd = 7 ∨ kd = 9 ∨ kd = 10 ∨ kd = 11 ∨ kd = 12 ∨ kd = 14) (hpl : 0 ≤ pl) : Calls Tryz.prog 70 #[.agg (ndM kd [] tx 0 kv pl).toArray, .bool loc, .bool wide] w (Give (.bool (decide (tx = []))) w) := by
 have hty : ∀ w, Calls Tryz.prog 90 #[st []] w (Give (.bool false) w) := fun w => by
  have := type_ok [] w
  exact this
 refine give_of_W (vs := [.agg (ndM kd [] tx 0 kv pl).toArray, .bool loc, .bool wide]) Tryz.func70 rfl Tryz.ntmps70 (Nat.le_of_ble_eq_true rfl) (St.nil w _) ?_
 simp only [argL]
 rcases hk with rfl | rfl | rfl | rfl | rfl | rfl | rfl | rfl
 all_goals (
  repeat' (first | (apply gL; first | (apply Wl.ev rfl rfl; exact Zev) | (refine Zfn ?_; refine wl_box rfl rfl rfl rfl ?_; intro nb) | (refine Zfl ?_; refine wl_call0 rfl rfl has90 rfl Zb8 ?_) | apply Wl.nil | (refine Zbr ?_)) | (apply gQ; first | (apply Wq.ev rfl rfl; exact Zev)) | (apply lW; first | apply W.seq | apply W.region | apply W.block | apply W.skip | (refine Zbk ?_) | (refine Zbg ?_) | (refine Zz ?_ ?_ <;> (intro h; try exact Za)) | (refine Zba ?_; intro w hs)))
  all_goals first | exact ret_eq hs rfl | contradiction | exact Zy | fail)
theorem said_nam (w : World) (hk : kd = 3 ∨ kd = 8 ∨ kd = 18 ∨ kd = 19) (hpl : 0 ≤ pl) : Calls Tryz.prog 70 #[.agg (ndM kd [] tx 0 kv pl).toArray, .bool loc, .bool wide] w (Give (.bool (namB tx)) w) := by
 have hty : ∀ w, Calls Tryz.prog 90 #[st []] w (Give (.bool false) w) := fun w => by
  have := type_ok [] w
  exact this
 have hna : ∀ w, Calls Tryz.prog 108 #[st tx] w (Give (.bool (namB tx)) w) := name_ok tx
 obtain ⟨b, hb⟩ : ∃ b, namB tx = b := ⟨_, rfl⟩
 rw [hb] at hna ⊢
 refine give_of_W (vs := [.agg (ndM kd [] tx 0 kv pl).toArray, .bool loc, .bool wide]) Tryz.func70 rfl Tryz.ntmps70 (Nat.le_of_ble_eq_true rfl) (St.nil w _) ?_
 simp only [argL]
 rcases hk with rfl | rfl | rfl | rfl
 all_goals (
  repeat' (first | (apply gL; first | (apply Wl.ev rfl rfl; exact Zev) | (refine Zfn ?_; refine wl_box rfl rfl rfl rfl ?_; intro nb) | (refine Zfl ?_; refine wl_call0 rfl rfl has90 rfl Zb8 ?_) | (refine lD 108 ?_; refine wl_call0 rfl rfl has108 rfl (fun w hs => hna w) ?_) | apply Wl.nil | (refine Zbr ?_)) | (apply gQ; first | (apply Wq.ev rfl rfl; exact Zev)) | (apply lW; first | apply W.seq | apply W.region | apply W.block | apply W.skip | (refine Zbk ?_) | (refine Zbg ?_) | (refine Zz ?_ ?_ <;> (intro h; try exact Za)) | (refine Zba ?_; intro w hs)))
  all_goals first | exact ret_eq hs rfl | contradiction | exact Zy | fail)
theorem said_namT (w : World) (hk : kd = 4 ∨ kd = 5) (hpl : 0 ≤ pl) (hY : isTyp ty = true) : Calls Tryz.prog 70 #[.agg (ndM kd ty tx 0 kv pl).toArray, .bool loc, .bool wide] w (Give (.bool (namB tx)) w) := by
 have hty : ∀ w, Calls Tryz.prog 90 #[st ty] w (Give (.bool true) w) := fun w => by
  have := type_ok ty w
  rw [hY] at this
  exact this
 have hna : ∀ w, Calls Tryz.prog 108 #[st tx] w (Give (.bool (namB tx)) w) := name_ok tx
 obtain ⟨b, hb⟩ : ∃ b, namB tx = b := ⟨_, rfl⟩
 rw [hb] at hna ⊢
 refine give_of_W (vs := [.agg (ndM kd ty tx 0 kv pl).toArray, .bool loc, .bool wide]) Tryz.func70 rfl Tryz.ntmps70 (Nat.le_of_ble_eq_true rfl) (St.nil w _) ?_
 simp only [argL]
 rcases hk with rfl | rfl
 all_goals (
  repeat' (first | (apply gL; first | (apply Wl.ev rfl rfl; exact Zev) | (refine Zfn ?_; refine wl_box rfl rfl rfl rfl ?_; intro nb) | (refine Zfl ?_; refine wl_call0 rfl rfl has90 rfl Zb8 ?_) | (refine lD 108 ?_; refine wl_call0 rfl rfl has108 rfl (fun w hs => hna w) ?_) | apply Wl.nil | (refine Zbr ?_)) | (apply gQ; first | (apply Wq.ev rfl rfl; exact Zev)) | (apply lW; first | apply W.seq | apply W.region | apply W.block | apply W.skip | (refine Zbk ?_) | (refine Zbg ?_) | (refine Zz ?_ ?_ <;> (intro h; try exact Za)) | (refine Zba ?_; intro w hs)))
  all_goals first | exact ret_eq hs rfl | contradiction | exact Zy | fail)
theorem said_call (w : World) (hk : kd = 17) (hpl : 0 ≤ pl) : Calls Tryz.prog 70 #[.agg (ndM kd [] tx 0 kv pl).toArray, .bool loc, .bool wide] w (Give (.bool (namB tx || isTyp tx)) w) := by
 have hty : ∀ w, Calls Tryz.prog 90 #[st []] w (Give (.bool false) w) := fun w => by
  have := type_ok [] w
  exact this
 have hna : ∀ w, Calls Tryz.prog 108 #[st tx] w (Give (.bool (namB tx)) w) := name_ok tx
 obtain ⟨b, hb⟩ : ∃ b, namB tx = b := ⟨_, rfl⟩
 rw [hb] at hna ⊢
 have htx : ∀ w, Calls Tryz.prog 90 #[st tx] w (Give (.bool (isTyp tx)) w) := type_ok tx
 obtain ⟨y, hy⟩ : ∃ y, isTyp tx = y := ⟨_, rfl⟩
 rw [hy] at htx ⊢
 subst hk
 refine give_of_W (vs := [.agg (ndM 17 [] tx 0 kv pl).toArray, .bool loc, .bool wide]) Tryz.func70 rfl Tryz.ntmps70 (Nat.le_of_ble_eq_true rfl) (St.nil w _) ?_
 simp only [argL]
 cases b <;> cases y
 all_goals
 repeat' (first | (apply gL; first | (apply Wl.ev rfl rfl; exact Zev) | (refine Zfn ?_; refine wl_box rfl rfl rfl rfl ?_; intro nb) | (refine Zfl ?_; refine wl_call0 rfl rfl has90 rfl Zb8 ?_) | (refine lD 108 ?_; refine wl_call0 rfl rfl has108 rfl (fun w hs => hna w) ?_) | (refine Zfl ?_; refine wl_call0 rfl rfl has90 rfl (fun w hs => htx w) ?_) | apply Wl.nil | (refine Zbr ?_)) | (apply gQ; first | (apply Wq.ev rfl rfl; exact Zev)) | (apply lW; first | apply W.seq | apply W.region | apply W.block | apply W.skip | (refine Zbk ?_) | (refine Zbg ?_) | (refine Zz ?_ ?_ <;> (intro h; try exact Za)) | (refine Zba ?_; intro w hs)))
 all_goals first | exact ret_eq hs rfl | contradiction | exact Zy
theorem said_decl (w : World) (hk : kd = 2) (hpl : 0 ≤ pl) (hY : isTyp ty = true) : Calls Tryz.prog 70 #[.agg (ndM kd ty tx 0 kv pl).toArray, .bool loc, .bool wide] w (Give (.bool (tx.isEmpty || decide (tx = [99, 111, 110, 115, 116]) || (isQua tx && !loc))) w) := by
 have hty : ∀ w, Calls Tryz.prog 90 #[st ty] w (Give (.bool true) w) := fun w => by
  have := type_ok ty w
  rw [hY] at this
  exact this
 have hqu : ∀ w, Calls Tryz.prog 56 #[st tx] w (Give (.bool (isQua tx)) w) := qual_ok tx
 subst hk
 refine give_of_W (vs := [.agg (ndM 2 ty tx 0 kv pl).toArray, .bool loc, .bool wide]) Tryz.func70 rfl Tryz.ntmps70 (Nat.le_of_ble_eq_true rfl) (St.nil w _) ?_
 simp only [argL]
 by_cases h0 : tx = []
 ·subst h0
  repeat' (first | (apply gL; first | (apply Wl.ev rfl rfl; exact Zev) | (refine Zfn ?_; refine wl_box rfl rfl rfl rfl ?_; intro nb) | (refine Zfl ?_; refine wl_call0 rfl rfl has90 rfl Zb8 ?_) | apply Wl.nil | (refine Zbr ?_)) | (apply gQ; first | (apply Wq.ev rfl rfl; exact Zev)) | (apply lW; first | apply W.seq | apply W.region | apply W.block | apply W.skip | (refine Zbk ?_) | (refine Zbg ?_) | (refine Zz ?_ ?_ <;> (intro h; try exact Za)) | (refine Zba ?_; intro w hs)))
  all_goals first | exact ret_eq hs rfl | contradiction | exact Zy
 by_cases h1 : tx = [99, 111, 110, 115, 116]
 ·subst h1
  repeat' (first | (apply gL; first | (apply Wl.ev rfl rfl; exact Zev) | (refine Zfn ?_; refine wl_box rfl rfl rfl rfl ?_; intro nb) | (refine Zfl ?_; refine wl_call0 rfl rfl has90 rfl Zb8 ?_) | apply Wl.nil | (refine Zbr ?_)) | (apply gQ; first | (apply Wq.ev rfl rfl; exact Zev)) | (apply lW; first | apply W.seq | apply W.region | apply W.block | apply W.skip | (refine Zbk ?_) | (refine Zbg ?_) | (refine Zz ?_ ?_ <;> (intro h; try exact Za)) | (refine Zba ?_; intro w hs)))
  all_goals first | exact ret_eq hs rfl | contradiction | exact Zy
 have he : (tx.isEmpty || decide (tx = [99, 111, 110, 115, 116]) || (isQua tx && !loc)) = (isQua tx && !loc) := by
  rw [decide_eq_false h1]
  cases tx with
  | nil => exact absurd rfl h0
  | cons a l => rfl
 rw [he]
 obtain ⟨q, hq⟩ : ∃ q, isQua tx = q := ⟨_, rfl⟩
 rw [hq] at hqu ⊢
 cases q <;> cases loc
 all_goals
  repeat' (first | (apply gL; first | (apply Wl.ev rfl rfl; exact Zfo) | (refine Zfn ?_; refine wl_box rfl rfl rfl rfl ?_; intro nb) | (refine Zfl ?_; refine wl_call0 rfl rfl has90 rfl Zb8 ?_) | (refine lD 56 ?_; refine wl_call0 rfl rfl has56 rfl (fun w hs => hqu w) ?_) | apply Wl.nil | (refine Zbr ?_)) | (apply gQ; first | (apply Wq.ev rfl rfl; exact Zfo)) | (apply lW; first | apply W.seq | apply W.region | apply W.block | apply W.skip | (refine Zbk ?_) | (refine Zbg ?_) | (refine Zz ?_ ?_ <;> (intro h; try exact Za)) | (refine Zba ?_; intro w hs)))
  all_goals first | exact ret_eq hs rfl | contradiction | exact Zy
theorem said_asg (w : World) (hk : kd = 13) (hpl : 0 ≤ pl) : Calls Tryz.prog 70 #[.agg (ndM kd [] tx 0 kv pl).toArray, .bool loc, .bool wide] w (Give (.bool (asgW.contains tx)) w) := by
 have hty : ∀ w, Calls Tryz.prog 90 #[st []] w (Give (.bool false) w) := fun w => type_ok [] w
 subst hk
 refine give_of_W (vs := [.agg (ndM 13 [] tx 0 kv pl).toArray, .bool loc, .bool wide]) Tryz.func70 rfl Tryz.ntmps70 (Nat.le_of_ble_eq_true rfl) (St.nil w _) ?_
 simp only [argL]
 have hc : ∀ {w' : World} {H : List Ent} {sb : Nat}, St [] w w' H → (⟨sb, true, row (strV asgW) 9⟩ : Ent) ∈ H → Calls Tryz.prog 92 #[.slice (some ⟨sb, 0, none⟩) 5 5, st tx] w' (Give (.bool (asgW.contains tx)) w') := fun {w' H sb} hs hm =>
  containsS_ok (l := asgW) hs (.inr ⟨sb, 0, 5, (strV asgW).toArray, 9, (0, 0), true, rfl, hm, Nat.le_refl _, fun j u hu => by simpa using hu⟩) Zf6
 obtain ⟨b, hb⟩ : ∃ b, asgW.contains tx = b := ⟨_, rfl⟩
 rw [hb] at hc ⊢
 repeat' (first | (apply gL; first | (apply Wl.ev rfl rfl; exact Zev) | (refine Zfn ?_; refine wl_box rfl rfl rfl rfl ?_; intro nb) | (refine Zfl ?_; refine wl_call0 rfl rfl has90 rfl Zb8 ?_) | (refine lD 92 ?_; refine wl_call0 rfl rfl has92 rfl (fun w hs => hc hs Zd) ?_) | apply Wl.nil | (refine Zbr ?_) | (apply wl_buildSlice rfl rfl (slT rfl) (szT rfl) (zeroT rfl) rfl Zf6 rfl; exact Zt; intro b)) | (apply gQ; first | (apply Wq.ev rfl rfl; exact Zev)) | (apply lW; first | apply W.seq | apply W.region | apply W.block | apply W.skip | (refine Zbk ?_) | (refine Zbg ?_) | (refine Zz ?_ ?_ <;> (intro h; try exact Za)) | (refine Zba ?_; intro w hs)))
 all_goals first | exact ret_eq hs rfl | contradiction | exact Zy
theorem said_un (w : World) (hk : kd = 16) (hpl : 0 ≤ pl) : Calls Tryz.prog 70 #[.agg (ndM kd [] tx 0 kv pl).toArray, .bool loc, .bool wide] w (Give (.bool (decide (tx = [45]) || decide (tx = [33]))) w) := by
 have hty : ∀ w, Calls Tryz.prog 90 #[st []] w (Give (.bool false) w) := fun w => type_ok [] w
 subst hk
 refine give_of_W (vs := [.agg (ndM 16 [] tx 0 kv pl).toArray, .bool loc, .bool wide]) Tryz.func70 rfl Tryz.ntmps70 (Nat.le_of_ble_eq_true rfl) (St.nil w _) ?_
 simp only [argL]
 by_cases h0 : tx = [45]
 ·subst h0
  repeat' (first | (apply gL; first | (apply Wl.ev rfl rfl; exact Zev) | (refine Zfn ?_; refine wl_box rfl rfl rfl rfl ?_; intro nb) | (refine Zfl ?_; refine wl_call0 rfl rfl has90 rfl Zb8 ?_) | apply Wl.nil | (refine Zbr ?_)) | (apply gQ; first | (apply Wq.ev rfl rfl; exact Zev)) | (apply lW; first | apply W.seq | apply W.region | apply W.block | apply W.skip | (refine Zbk ?_) | (refine Zbg ?_) | (refine Zz ?_ ?_ <;> (intro h; try exact Za)) | (refine Zba ?_; intro w hs)))
  all_goals first | exact ret_eq hs rfl | contradiction | exact Zy
 rw [decide_eq_false h0, Bool.false_or]
 repeat' (first | (apply gL; first | (apply Wl.ev rfl rfl; exact Zcw) | (refine Zfn ?_; refine wl_box rfl rfl rfl rfl ?_; intro nb) | (refine Zfl ?_; refine wl_call0 rfl rfl has90 rfl Zb8 ?_) | apply Wl.nil | (refine Zbr ?_)) | (apply gQ; first | (apply Wq.ev rfl rfl; exact Zcw)) | (apply lW; first | apply W.seq | apply W.region | apply W.block | apply W.skip | (refine Zbk ?_) | (refine Zbg ?_) | (refine Zz ?_ ?_ <;> (intro h; try exact Za)) | (refine Zba ?_; intro w hs)))
 all_goals first | exact ret_eq hs rfl | contradiction | exact Zy
theorem said_boo (w : World) (hk : kd = 22) (hpl : 0 ≤ pl) : Calls Tryz.prog 70 #[.agg (ndM kd [] tx 0 kv pl).toArray, .bool loc, .bool wide] w (Give (.bool (decide (tx = [116, 114, 117, 101]) || decide (tx = [102, 97, 108, 115, 101]))) w) := by
 have hty : ∀ w, Calls Tryz.prog 90 #[st []] w (Give (.bool false) w) := fun w => type_ok [] w
 subst hk
 refine give_of_W (vs := [.agg (ndM 22 [] tx 0 kv pl).toArray, .bool loc, .bool wide]) Tryz.func70 rfl Tryz.ntmps70 (Nat.le_of_ble_eq_true rfl) (St.nil w _) ?_
 simp only [argL]
 by_cases h0 : tx = [116, 114, 117, 101]
 ·subst h0
  repeat' (first | (apply gL; first | (apply Wl.ev rfl rfl; exact Zev) | (refine Zfn ?_; refine wl_box rfl rfl rfl rfl ?_; intro nb) | (refine Zfl ?_; refine wl_call0 rfl rfl has90 rfl Zb8 ?_) | apply Wl.nil | (refine Zbr ?_)) | (apply gQ; first | (apply Wq.ev rfl rfl; exact Zev)) | (apply lW; first | apply W.seq | apply W.region | apply W.block | apply W.skip | (refine Zbk ?_) | (refine Zbg ?_) | (refine Zz ?_ ?_ <;> (intro h; try exact Za)) | (refine Zba ?_; intro w hs)))
  all_goals first | exact ret_eq hs rfl | contradiction | exact Zy
 rw [decide_eq_false h0, Bool.false_or]
 repeat' (first | (apply gL; first | (apply Wl.ev rfl rfl; exact Zcw) | (refine Zfn ?_; refine wl_box rfl rfl rfl rfl ?_; intro nb) | (refine Zfl ?_; refine wl_call0 rfl rfl has90 rfl Zb8 ?_) | apply Wl.nil | (refine Zbr ?_)) | (apply gQ; first | (apply Wq.ev rfl rfl; exact Zcw)) | (apply lW; first | apply W.seq | apply W.region | apply W.block | apply W.skip | (refine Zbk ?_) | (refine Zbg ?_) | (refine Zz ?_ ?_ <;> (intro h; try exact Za)) | (refine Zba ?_; intro w hs)))
 all_goals first | exact ret_eq hs rfl | contradiction | exact Zy
theorem lv_wr {x : Nat × (Nat → Nat)} {e : Ent} (h : e ∈ lvH x) : (⟨e.b, true, e.o⟩ : Ent) = e := by
 rcases List.mem_cons.1 h with rfl | h
 ·rfl
 ·obtain ⟨i, _, rfl⟩ := List.mem_map.1 h
  rfl
theorem said_bin (w : World) (hk : kd = 15) (hpl : 0 ≤ pl) : Calls Tryz.prog 70 #[.agg (ndM kd [] tx 0 kv pl).toArray, .bool loc, .bool wide] w (Give (.bool (levA tx)) w) := by
 have hty : ∀ w, Calls Tryz.prog 90 #[st []] w (Give (.bool false) w) := fun w => type_ok [] w
 subst hk
 refine give_of_W (vs := [.agg (ndM 15 [] tx 0 kv pl).toArray, .bool loc, .bool wide]) Tryz.func70 rfl Tryz.ntmps70 (Nat.le_of_ble_eq_true rfl) (St.nil w _) ?_
 simp only [argL]
 have hcl : ∀ {w' : World} {H : List Ent} {nb tb : Nat} {q : Nat → Nat}, St [] w w' H → (⟨nb, true, row (ndM 15 [] tx 0 kv pl) 47⟩ : Ent) ∈ H → (∀ e ∈ lvH (tb, q), ∃ wr, (⟨e.b, wr, e.o⟩ : Ent) ∈ H) → Calls Tryz.prog 109 #[.slice (some ⟨tb, 0, none⟩) 6 6, fnV 111 [] [ptr nb]] w' (Give (.bool (levA tx)) w') := fun hs hm hL => contL_ok hs hm hL
 obtain ⟨b, hb⟩ : ∃ b, levA tx = b := ⟨_, rfl⟩
 rw [hb] at hcl ⊢
 repeat' (first | (apply gL; first | (apply Wl.ev rfl rfl; exact Zu) | (refine Zfn ?_; refine wl_box rfl rfl rfl rfl ?_; intro nb) | (refine Zfl ?_; refine wl_call0 rfl rfl has90 rfl Zb8 ?_) | (refine lC 124 110 ?_; refine wl_callS rfl rfl has110 rfl Zc3 ?_; rintro ⟨tb, q⟩ hq; clear hq; dsimp only) | (refine lD 109 ?_; refine wl_call0 rfl rfl has109 rfl (fun w hs => hcl (tb := tb) (q := q) hs (List.Mem.head _) (fun e he => ⟨true, (lv_wr he).symm ▸ List.Mem.tail _ he⟩)) ?_) | apply Wl.nil | (refine Zbr ?_)) | (apply gQ; first | (apply Wq.ev rfl rfl; exact Zu)) | (apply lW; first | apply W.seq | apply W.region | apply W.block | apply W.skip | (refine Zbk ?_) | (refine Zbg ?_) | (refine Zz ?_ ?_ <;> (intro h; try exact Za)) | (refine Zba ?_; intro w hs)))
 all_goals first | exact ret_eq hs rfl | contradiction | exact Zy
end
end Go.Proofs.YtbinaeemcidicaaGreatDoor
