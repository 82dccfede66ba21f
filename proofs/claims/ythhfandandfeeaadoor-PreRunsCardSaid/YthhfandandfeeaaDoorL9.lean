/- Walks of the document's answer: signs and tokens. No condition. -/
import Derived.Test.YthhfandandfeeaaDoorL8
namespace Go.Proofs.YthhfandandfeeaaDoor
open Go.PB Go.RowKit
attribute [local irreducible] Go.Calls
/-- the signs of two bytes, and of one -/
def twoL : List (UInt8 × UInt8) := [(61, 61), (33, 61), (60, 61), (62, 61), (38, 38), (124, 124), (43, 43), (45, 45), (43, 61), (45, 61), (42, 61), (47, 61), (61, 61)]
def oneL : List UInt8 := [40, 41, 91, 93, 123, 125, 46, 44, 59, 58, 63, 43, 45, 42, 47, 60, 62, 61, 33, 35]
theorem sign_spec (c d : UInt8) : (signN c d = 2 ↔ (c, d) ∈ twoL) ∧ (signN c d ≠ 2 → (signN c d = 1 ↔ c ∈ oneL)) := by
  unfold signN
  by_cases h61 : d = 61
  · subst h61
    split
    · rename_i h
      rcases h with rfl | rfl | rfl | rfl | rfl | rfl <;> decide
    · split
      · rename_i h
        rcases h with rfl | rfl <;> decide
      · split
        · rename_i h
          rcases h with rfl | rfl <;> decide
        · split
          · rename_i h
            rcases h with rfl | rfl | rfl | rfl | rfl | rfl | rfl | rfl | rfl | rfl | rfl | rfl <;> decide
          · rename_i h1 h2 h3 h4
            simp only [not_or] at h1 h2 h3 h4
            simp [twoL, oneL, h1, h2, h3, h4]
  · by_cases hdc : d = c
    · subst hdc
      split
      · rename_i h
        rcases h with rfl | rfl | rfl | rfl | rfl | rfl <;> first | decide | (exfalso; exact h61 rfl)
      · split
        · rename_i h
          rcases h with rfl | rfl <;> decide
        · split
          · rename_i h
            rcases h with rfl | rfl <;> decide
          · split
            · rename_i h
              rcases h with rfl | rfl | rfl | rfl | rfl | rfl | rfl | rfl | rfl | rfl | rfl | rfl <;> decide
            · rename_i h1 h2 h3 h4
              simp only [not_or] at h1 h2 h3 h4
              simp [twoL, oneL, h1, h2, h3, h4]
    · have hcd : ∀ k : UInt8, c = k → d ≠ k := fun k h e => hdc (by rw [h, e])
      have htw : (c, d) ∉ twoL := by
        simp only [twoL, List.mem_cons, Prod.mk.injEq, List.not_mem_nil, or_false]
        rintro (h | h | h | h | h | h | h | h | h | h | h | h | h) <;> first | exact h61 h.2 | exact hcd _ h.1 h.2
      split
      · rename_i h
        refine ⟨⟨fun h => (by cases h), fun h => absurd h htw⟩, fun _ => ⟨fun _ => ?_, fun _ => rfl⟩⟩
        rcases h with rfl | rfl | rfl | rfl | rfl | rfl <;> decide
      · split
        · rename_i h
          rw [if_neg (fun h : d = 61 ∨ d = c => h.elim h61 hdc)]
          refine ⟨⟨fun h => (by cases h), fun h => absurd h htw⟩, fun _ => ⟨fun _ => ?_, fun _ => rfl⟩⟩
          rcases h with rfl | rfl <;> decide
        · split
          · rename_i h
            refine ⟨⟨fun h => (by cases h), fun h => absurd h htw⟩, fun _ => ⟨fun h => (by cases h), fun h2 => ?_⟩⟩
            rcases h with rfl | rfl <;> (exfalso; revert h2; decide)
          · split
            · rename_i h
              refine ⟨⟨fun h => (by cases h), fun h => absurd h htw⟩, fun _ => ⟨fun _ => ?_, fun _ => rfl⟩⟩
              rcases h with rfl | rfl | rfl | rfl | rfl | rfl | rfl | rfl | rfl | rfl | rfl | rfl <;> decide
            · rename_i h1 h2 h3 h4
              simp only [not_or] at h1 h2 h3 h4
              simp [twoL, oneL, h1, h2, h3, h4]
def twoV : List Value := twoL.map fun p => st [p.1, p.2]
theorem two_ok (w : World) : Calls Tryd.prog 58 #[] w (Give (.agg twoV.toArray) w) := by
  refine give_of_W (vs := []) Tryd.func58 rfl Tryd.ntmps58 (Nat.le_of_ble_eq_true rfl) (St.nil w _) ?_
  simp only [argL]
  repeat' (first | (apply gL; first | (apply Wl.ev rfl rfl; (focus (first | (apply gBui; first | (apply ev_build (bldT rfl) rfl; simp [fillP]; rfl))))) | apply Wl.nil | (refine wl_alloc rfl rfl (zeroT rfl) ?_; intro b) | (refine wl_storeWhole rfl rfl rfl (szT rfl) rfl (by repeat (first | exact Upd.here | apply Upd.there)) (by rfl) ?_)) | ((show W _ _ _ _ _ _ _ _ _); first | apply W.seq | apply W.region | (refine W.retc rfl rfl (agT rfl) (by repeat (first | exact List.Mem.head _ | apply List.Mem.tail)) (szT rfl) ?_; intro w hs)))
  exact ret_eq hs rfl
theorem one_get {j : Nat} (hj : j < 20) : oneL.toArray.size = 20 ∧ (bytV oneL)[j]? = some (by8 (oneL.getD j 0)) := by
  refine ⟨rfl, ?_⟩
  have : j < oneL.length := hj
  simp [bytV, List.getD, this]
theorem one_ok (c : UInt8) (w : World) : Calls Tryd.prog 59 #[by8 c] w (Give (.bool (decide (c ∈ oneL))) w) := by
  refine give_of_W (vs := [by8 c]) Tryd.func59 rfl Tryd.ntmps59 (Nat.le_of_ble_eq_true rfl) (St.nil w _) ?_
  simp only [argL]
  repeat' (first | (apply gL; first | (apply Wl.ev rfl rfl; (focus (first | exact ev_move rfl | exact ev_assign rfl | (apply gCal; first | exact ev_len_slice (slT rfl) rfl)))) | (refine wl_convOwn rfl rfl (slT rfl) (intT rfl) rfl (by repeat (first | exact Upd.here | apply Upd.there)) ?_) | apply Wl.nil | (apply wl_buildSlice rfl rfl (slT rfl) (szT rfl) (zeroT rfl) rfl (by decide) rfl; (focus (simp [fillP, List.range_succ]; rfl)); intro b)) | ((show W _ _ _ _ _ _ _ _ _); first | apply W.seq | (refine W.loop (X := Nat) (fun j => [(0, by8 c), (6, .slice (some ⟨b, 0, none⟩) 20 20), (7, .int .i64 20), (8, .int .i64 (j : Nat))]) (fun _ => [⟨b, true, .cells (bytV oneL).toArray 5 (20, 21)⟩]) (fun j => j ≤ 20 ∧ ∀ i, i < j → oneL.getD i 0 ≠ c) (fun j => 20 - j) 0 ⟨Nat.zero_le _, fun i h => absurd h (Nat.not_lt_zero _)⟩ (by repeat (first | exact SubL.nil | refine SubL.cons rfl ?_)) (by repeat (first | exact SubH.nil | apply SubH.keep)) ?_) | apply W.region | apply W.block))
  rintro j ⟨hj, hno⟩
  by_cases hlt : j < 20
  · have hg := (one_get hlt).2
    obtain ⟨x, hx⟩ : ∃ x, oneL.getD j 0 = x := ⟨_, rfl⟩
    rw [hx] at hg
    by_cases hxc : x = c
    · have hm : c ∈ oneL := by
        have : j < oneL.length := hlt
        rw [← hxc, ← hx]
        simp [List.getD, this]
      have hxn : (x.toNat : Int) = c.toNat := by rw [hxc]
      repeat' (first | (apply gL; first | (apply Wl.ev rfl rfl; (focus (first | exact ev_move rfl | (apply gLoa; first | exact ev_loadAt (agT rfl) rfl (by repeat (first | exact List.Mem.head _ | apply List.Mem.tail)) (show _ = some (by8 x) from by simpa using hg)) | exact ev_assign rfl | (apply gBin; first | exact ev_eqi rfl rfl | exact ev_lti rfl rfl) | (apply gIxA; first | exact ev_indexAddr (slT rfl) (szT rfl) rfl rfl (by omega))))) | apply Wl.nil) | ((show W _ _ _ _ _ _ _ _ _); first | apply W.seq | apply W.region | apply W.block | apply W.skip | (refine W.cond rfl ?_ ?_ <;> (intro h; try (exfalso; first | contradiction | omega | exact h rfl | exact h ⟨rfl, rfl⟩ | (simp_all; done)))) | (refine W.ret1 rfl rfl ?_; intro w hs)))
      all_goals exact ret_eq hs (congrArg Value.bool (decide_eq_true hm).symm)
    · have hxn := by_ne hxc
      have hno' : ∀ i, i < j + 1 → oneL.getD i 0 ≠ c := fun i hi => by
        rcases Nat.lt_or_ge i j with h | h
        · exact hno i h
        · rw [show i = j by omega, hx]
          exact hxc
      repeat' (first | (apply gL; first | (apply Wl.ev rfl rfl; (focus (first | exact ev_move rfl | (apply gLoa; first | exact ev_loadAt (agT rfl) rfl (by repeat (first | exact List.Mem.head _ | apply List.Mem.tail)) (show _ = some (by8 x) from by simpa using hg)) | exact ev_assign rfl | (apply gBin; first | exact ev_eqi rfl rfl | exact ev_lti rfl rfl | exact ev_add64 rfl rfl (by omega)) | (apply gIxA; first | exact ev_indexAddr (slT rfl) (szT rfl) rfl rfl (by omega))))) | apply Wl.nil) | ((show W _ _ _ _ _ _ _ _ _); first | apply W.seq | (refine W.again (j + 1) ⟨by omega, hno'⟩ (by omega) (by repeat (first | exact SubL.nil | refine SubL.cons rfl ?_)) (by repeat (first | exact SubH.nil | apply SubH.keep | apply SubH.drop | exact List.Sublist.refl _))) | apply W.region | apply W.block | apply W.blk | apply W.skip | (refine W.cond rfl ?_ ?_ <;> (intro h; try (exfalso; first | contradiction | omega | exact h rfl | exact h ⟨rfl, rfl⟩ | (simp_all; done))))))
  · have hm : c ∉ oneL := fun h => by
      obtain ⟨i, hi, he⟩ := List.mem_iff_getElem.1 h
      have hi' : i < 20 := hi
      exact hno i (by omega) (by simp [List.getD, hi, he])
    repeat' (first | (apply gL; first | (apply Wl.ev rfl rfl; (focus (first | exact ev_assign rfl | exact ev_lti rfl rfl))) | apply Wl.nil) | ((show W _ _ _ _ _ _ _ _ _); first | apply W.seq | apply W.region | (refine W.exit rfl ?_) | (refine W.cond rfl ?_ ?_ <;> (intro h; try (exfalso; first | contradiction | omega | exact h rfl | exact h ⟨rfl, rfl⟩ | (simp_all; done)))) | (refine W.ret1 rfl rfl ?_; intro w hs)))
    exact ret_eq hs (congrArg Value.bool (decide_eq_false hm).symm)
end Go.Proofs.YthhfandandfeeaaDoor
