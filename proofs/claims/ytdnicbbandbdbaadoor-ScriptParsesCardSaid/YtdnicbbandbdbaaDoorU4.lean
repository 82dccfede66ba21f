/- Walks: a text's first line, a text, by the program. No condition but the listed tables and cells that the library reads. -/
import Derived.Test.YtdnicbbandbdbaaDoorU3
namespace Go.Proofs.YtdnicbbandbdbaaDoor
open Go.PB Go.RowKit
attribute [local irreducible] Go.Calls
theorem word_len2' (l : List UInt8) : (wordR l).2.length ≤ max l.length 1 := by
  cases l with
  | nil => decide
  | cons c t => have := word_len2 (c :: t) (by simp); omega
def canRes (line : List UInt8) (w : World) : Ending → World → Prop := Gives (fun q : Int × Int => .tuple #[.int .i64 q.1, .int .i64 q.2, .bool (canP line).isSome]) (fun q => ∀ x, canP line = some x → q = x) w (fun _ => []) (fun _ => [])
theorem can_fin {w0 w : World} {H : List Ent} {line : List UInt8} {a b : Int} {c : Bool} (hs : St [] w0 w H) (hx : ∀ x, canP line = some x → (a, b) = x) (hc : c = (canP line).isSome) : canRes line w0 (.returned (.tuple #[.int .i64 a, .int .i64 b, .bool c])) w :=
  ret_new hs (a, b) hx (by rw [hc]) SubH.nil
set_option maxRecDepth 100000 in
set_option maxHeartbeats 16000000 in
theorem canvasP_ok {w : World} {line : List UInt8} (hl : line.length ≤ 900000) (lb : Lb w) : Calls Tryd.prog 28 #[st line] w (canRes line w) := by
  refine calls_of_W (vs := [st line]) Tryd.func28 rfl Tryd.ntmps28 (Nat.le_of_ble_eq_true rfl) (St.nil w []) ?_
  simp only [argL]
  have l1 := word_len2' line
  obtain ⟨wd, r0, hwr⟩ : ∃ a b, wordR line = (a, b) := ⟨_, _, rfl⟩
  rw [hwr] at l1
  have l2 := word_len2' r0
  obtain ⟨w1, r1, hwr1⟩ : ∃ a b, wordR r0 = (a, b) := ⟨_, _, rfl⟩
  rw [hwr1] at l2
  obtain ⟨w2, r2, hwr2⟩ : ∃ a b, wordR r1 = (a, b) := ⟨_, _, rfl⟩
  dsimp only at l1 l2
  have hcan : canP line = if wd ≠ canW then none else match numO w1, numO w2 with
      | some w, some h => if r2 = [] ∧ sideP w ∧ sideP h then some (w, h) else none
      | _, _ => none := by
    unfold canP
    rw [hwr]
    dsimp only
    rw [hwr1]
    dsimp only
    rw [hwr2]
    rfl
  have hwo : ∀ (w' : World), Lb w' → ∀ r, w'.heap[r]? = some (rdB line) → 6 ≤ r → Calls Tryd.prog 53 #[ptr r] w' (GiveT (st wd) r (rdB r0) w') := fun w' lb r h1 h2 => by
    have := word_ok2 (by omega : line.length ≤ 1000000) w' lb h1 h2
    rw [hwr] at this
    exact this
  have hn1 : ∀ (w' : World), Lb w' → ∀ r, w'.heap[r]? = some (rdB r0) → 6 ≤ r → Calls Tryd.prog 54 #[ptr r] w' (GiveT (.tuple #[.int .i64 (atoV w1), .bool (numO w1).isSome]) r (rdB r1) w') := fun w' lb r h1 h2 => by
    have := number_ok (by omega : r0.length ≤ 1000000) w' lb h1 h2
    rw [hwr1] at this
    exact this
  have hn2 : ∀ (w' : World), Lb w' → ∀ r, w'.heap[r]? = some (rdB r1) → 6 ≤ r → Calls Tryd.prog 54 #[ptr r] w' (GiveT (.tuple #[.int .i64 (atoV w2), .bool (numO w2).isSome]) r (rdB r2) w') := fun w' lb r h1 h2 => by
    have := number_ok (by omega : r1.length ≤ 1000000) w' lb h1 h2
    rw [hwr2] at this
    exact this
  by_cases hc : wd = canW
  case neg =>
    rw [if_pos hc] at hcan
    have hc' : ¬wd = [99, 97, 110, 118, 97, 115] := hc
    repeat' (first | (apply gL; first | (apply Wl.ev rfl rfl; (focus (first | exact ev_move rfl | exact ev_assign rfl | exact ev_nes rfl rfl | (apply gBui; first | (apply ev_build (bldT rfl) rfl; simp [fillP]; rfl))))) | ((show Wl _ _ _ _ _ _ _ (⟨_, .call ⟨.value (.func 53), _, _⟩, _, _, _, _⟩ :: _) _ _); refine wl_callT0 rfl rfl has53 rfl (fun w hs => hwo w (lb.st hs Low.nil) _ (hs.get (by repeat (first | exact List.Mem.head _ | apply List.Mem.tail))) (six lb hs (by repeat (first | exact List.Mem.head _ | apply List.Mem.tail)))) (by repeat (first | exact Upd.here | apply Upd.there)) ?_) | apply Wl.nil | (refine wl_box rfl rfl rfl rfl ?_; intro b)) | (apply gQ; first | (apply Wq.ev rfl rfl; (focus (first | exact ev_move rfl | exact ev_assign rfl | exact ev_nes rfl rfl | (apply gBui; first | (apply ev_build (bldT rfl) rfl; simp [fillP]; rfl)))))) | ((show W _ _ _ _ _ _ _ _ _); first | apply W.seq | apply W.region | (refine W.cond rfl ?_ ?_ <;> (intro h; try (exfalso; first | contradiction | omega | exact h rfl | exact h ⟨rfl, rfl⟩ | (exact Bool.false_ne_true ((by assumption : _ = false).symm.trans h)) | (exact Bool.false_ne_true (h.symm.trans (by assumption)))))) | (refine W.ret3 rfl rfl rfl rfl ?_; intro w hs)))
    all_goals first
      | exact can_fin hs (fun x h => by rw [hcan] at h; cases h) (by rw [hcan]; rfl)
      | contradiction
      | fail
  rw [if_neg (by simpa using hc)] at hcan
  have hc' : wd = [99, 97, 110, 118, 97, 115] := hc
  have sd : ∀ (n : Int) (w : World), Calls Tryd.prog 45 #[.int .i64 n] w (Give (.bool (decide (sideP n))) w) := side_ok
  obtain ⟨A, hA⟩ : ∃ A, atoV w1 = A := ⟨_, rfl⟩
  obtain ⟨B, hB⟩ : ∃ B, atoV w2 = B := ⟨_, rfl⟩
  obtain ⟨a, ha⟩ : ∃ a, (numO w1).isSome = a := ⟨_, rfl⟩
  obtain ⟨b, hb⟩ : ∃ b, (numO w2).isSome = b := ⟨_, rfl⟩
  rw [hA, ha] at hn1
  rw [hB, hb] at hn2
  have hcd : canP line = if a = true ∧ b = true ∧ r2 = [] ∧ sideP A ∧ sideP B then some (A, B) else none := by
    rw [hcan, ← ha, ← hb]
    cases h1 : numO w1 with
    | none => rw [if_neg (by rintro ⟨h, _⟩; cases h)]
    | some x =>
      cases h2 : numO w2 with
      | none => rw [if_neg (by rintro ⟨_, h, _⟩; cases h)]
      | some y =>
        have e1 : A = x := by rw [← hA]; exact atoV_num h1
        have e2 : B = y := by rw [← hB]; exact atoV_num h2
        subst e1 e2
        simp
  obtain ⟨sa, hsa⟩ : ∃ s, decide (sideP A) = s := ⟨_, rfl⟩
  obtain ⟨sb, hsb⟩ : ∃ s, decide (sideP B) = s := ⟨_, rfl⟩
  have sda := sd A
  have sdb := sd B
  rw [hsa] at sda
  rw [hsb] at sdb
  have hE : (canP line).isSome = (a && b && decide (r2 = []) && sa && sb) := by
    rw [hcd, ← hsa, ← hsb]
    by_cases h : a = true ∧ b = true ∧ r2 = [] ∧ sideP A ∧ sideP B
    · rw [if_pos h]; obtain ⟨h1, h2, h3, h4, h5⟩ := h; simp [h1, h2, h3, h4, h5]
    · rw [if_neg h]
      symm
      rw [Option.isSome_none, Bool.eq_false_iff]
      intro hh
      simp only [Bool.and_eq_true, decide_eq_true_eq] at hh
      exact h ⟨hh.1.1.1.1, hh.1.1.1.2, hh.1.1.2, hh.1.2, hh.2⟩
  have hX : ∀ x, canP line = some x → (A, B) = x := fun x h => by
    rw [hcd] at h
    split at h
    · cases h; rfl
    · cases h
  clear hcd hcan
  repeat' (first | (apply gL; first | (apply Wl.ev rfl rfl; (focus (first | exact ev_move rfl | (apply gLoa; first | exact ev_load (agT rfl) rfl (by repeat (first | exact List.Mem.head _ | apply List.Mem.tail)) rfl) | (apply gFie; first | exact ev_fieldAddr0 (fldT rfl) rfl) | exact ev_assign rfl | (apply gPic; first | exact ev_pickT rfl rfl | exact ev_pickF rfl rfl) | (apply gBin; first | exact ev_eqs rfl rfl | exact ev_nes rfl rfl) | exact ev_extract rfl rfl | (apply gBui; first | (apply ev_build (bldT rfl) rfl; simp [fillP]; rfl)) | exact ev_nilCheck_ptr rfl))) | ((show Wl _ _ _ _ _ _ _ (⟨_, .call ⟨.value (.func 53), _, _⟩, _, _, _, _⟩ :: _) _ _); refine wl_callT0 rfl rfl has53 rfl (fun w hs => hwo w (lb.st hs Low.nil) _ (hs.get (by repeat (first | exact List.Mem.head _ | apply List.Mem.tail))) (six lb hs (by repeat (first | exact List.Mem.head _ | apply List.Mem.tail)))) (by repeat (first | exact Upd.here | apply Upd.there)) ?_) | ((show Wl _ _ _ _ _ _ _ (⟨some 16, .call ⟨.value (.func 54), _, _⟩, _, _, _, _⟩ :: _) _ _); refine wl_callT0 rfl rfl has54 rfl (fun w hs => hn1 w (lb.st hs Low.nil) _ (hs.get (by repeat (first | exact List.Mem.head _ | apply List.Mem.tail))) (six lb hs (by repeat (first | exact List.Mem.head _ | apply List.Mem.tail)))) (by repeat (first | exact Upd.here | apply Upd.there)) ?_) | ((show Wl _ _ _ _ _ _ _ (⟨some 21, .call ⟨.value (.func 54), _, _⟩, _, _, _, _⟩ :: _) _ _); refine wl_callT0 rfl rfl has54 rfl (fun w hs => hn2 w (lb.st hs Low.nil) _ (hs.get (by repeat (first | exact List.Mem.head _ | apply List.Mem.tail))) (six lb hs (by repeat (first | exact List.Mem.head _ | apply List.Mem.tail)))) (by repeat (first | exact Upd.here | apply Upd.there)) ?_) | ((show Wl _ _ _ _ _ _ _ (⟨some 39, .call ⟨.value (.func 45), _, _⟩, _, _, _, _⟩ :: _) _ _); refine wl_call0 rfl rfl has45 rfl (fun w _ => sda w) ?_) | ((show Wl _ _ _ _ _ _ _ (⟨some 43, .call ⟨.value (.func 45), _, _⟩, _, _, _, _⟩ :: _) _ _); refine wl_call0 rfl rfl has45 rfl (fun w _ => sdb w) ?_) | apply Wl.nil | (refine Wl.skip rfl rfl ?_) | (refine wl_box rfl rfl rfl rfl ?_; intro b) | ((fail_if_success (apply Wl.chk rfl)); refine Wl.split rfl rfl ?_ ?_ <;> (intro h; try (exfalso; first | contradiction | omega | exact h rfl | exact h ⟨rfl, rfl⟩ | (exact Bool.false_ne_true ((by assumption : _ = false).symm.trans h)) | (exact Bool.false_ne_true (h.symm.trans (by assumption)))))) | ((fail_if_success (apply Wl.chk rfl)); refine Wl.splitB rfl rfl ?_ ?_ <;> (intro h; try (exfalso; first | contradiction | (exact Bool.false_ne_true ((by assumption : _ = false).symm.trans h)) | (exact Bool.false_ne_true (h.symm.trans (by assumption))))))) | (apply gQ; first | (apply Wq.ev rfl rfl; (focus (first | exact ev_move rfl | (apply gLoa; first | exact ev_load (agT rfl) rfl (by repeat (first | exact List.Mem.head _ | apply List.Mem.tail)) rfl) | (apply gFie; first | exact ev_fieldAddr0 (fldT rfl) rfl) | exact ev_assign rfl | (apply gPic; first | exact ev_pickT rfl rfl | exact ev_pickF rfl rfl) | (apply gBin; first | exact ev_eqs rfl rfl | exact ev_nes rfl rfl) | exact ev_extract rfl rfl | (apply gBui; first | (apply ev_build (bldT rfl) rfl; simp [fillP]; rfl)) | exact ev_nilCheck_ptr rfl)))) | ((show W _ _ _ _ _ _ _ _ _); first | apply W.seq | apply W.region | apply W.skip | (refine W.cond rfl ?_ ?_ <;> (intro h; try (exfalso; first | contradiction | omega | exact h rfl | exact h ⟨rfl, rfl⟩ | (exact Bool.false_ne_true ((by assumption : _ = false).symm.trans h)) | (exact Bool.false_ne_true (h.symm.trans (by assumption)))))) | (refine W.ret3 rfl rfl rfl rfl ?_; intro w hs)))
  all_goals first
    | contradiction
    | exact can_fin (a := A) (b := B) hs hX (by rw [hE]; clear hE hX sda sdb hn1 hn2 hwo sd; simp [*])
    | fail
end Go.Proofs.YtdnicbbandbdbaaDoor
