/- Walks: what a panic of the parser leaves. No condition. -/
import Derived.Test.YtbinaeemcidicaaZED
import Derived.Test.YtbinaeemcidicaaZPE
namespace Go.PB
open Go.RowKit
theorem wp_of_W {P : Program} {Z : Exit → Act → World → Prop} {M : List Nat} {w0 w : World} {n : Nat} {L : List (Nat × Value)} {H : List Ent} {c : Code} {a : Act} (hf : Fz n L [] a) (hs : St M w0 w H) (h : W P Z M w0 n [] [.inl c] L H) : c.wp P Z a w := by
  unfold W at h
  exact h a w hf hs
end Go.PB
namespace Go.Proofs.Ytbinaeemcidicaa
open Go.PB Go.RowKit
attribute [local irreducible] Go.Calls
/-- recover finds nothing -/
theorem catch_idle (b2 b3 b5 b1 : Nat) (w : World) :
    CallsD Try.prog 27 #[ptr b2, ptr b3, ptr b5, ptr b1] .returning w fun e u' w' => e = .returned (.tuple #[]) ∧ u' = .returning ∧ w' = w := by
  refine callsD_of_wpS Try.func27 rfl fun c₀ cs hu => ?_
  apply wpS_seq
  apply wpS_region
  simp [wpOpsS, go_sem, recoverD, hu, Try.ntmps27, Exit.thenS]
  apply wpS_seq
  apply wpS_region
  have hnil : ∀ w : World, (binOp BinOp.neq 20 .nilIface .nilIface).run Try.prog w = .ok (.bool false) w := fun _ => by kernel_rfl
  simp [wpOpsS, go_sem, Exit.thenS, hnil]
  refine wpS_cond (t := false) (by simp [Act.eval]) ?_
  simp only [Bool.false_eq_true, if_false]
  refine wpS_of_wp (wp_skip ?_)
  cases c₀
  simp_all [bodyPostS, results, Try.results27]
/-- where tokens end, or the first that can't stand there -/
def endP (L : List Ti) (a : Nat) : Int := if a < L.length then (L.getD a ti0).a else if 0 < L.length then IntKind.i64.wrap ((L.getD (L.length - 1) ti0).a + ((L.getD (L.length - 1) ti0).t.length : Nat)) else 0
theorem ne_nil {M : List Nat} {w0 : World} {n i : Nat} {D : List Deferred} {L : List (Nat × Value)} {H : List Ent} {oty t : TypeId} (hx : evo L (.tmp i) = some (.iface 90 (.agg #[]))) : Ev Try.prog M w0 n D L H (.binOp .neq 20 (.tmp i) (.const .nilIface) t) oty (.bool true) := by
  have hnil : ∀ w : World, (binOp BinOp.neq 20 (.iface 90 (.agg #[])) .nilIface).run Try.prog w = .ok (.bool true) w := fun _ => by kernel_rfl
  have hg : ∀ w : World, (eqGuard BinOp.neq 20 (.tmp i) (.const .nilIface) (.iface 90 (.agg #[])) .nilIface).run Try.prog w = .ok () w := fun _ => by kernel_rfl
  unfold Ev
  intro a w hf _ dst pos after g
  have h1 := hf.eval hx
  have h2 : a.eval (.const .nilIface) = .nilIface := rfl
  simp only [execOp, h1, h2]
  simp [hnil, hg]
set_option maxRecDepth 100000 in
set_option maxHeartbeats 4000000 in
theorem catch_some {b2 b3 b5 b1 r a : Nat} {M : List Nat} {w0 w : World} {lv : Value} {L : List Ti} {A : List Ent}
    (hst : St M w0 w (⟨b2, true, row [.slice none 0 0] 32⟩ :: ⟨b3, true, row [.int .i64 0, .int .i64 0] 27⟩ :: ⟨b5, true, row [ptr r] 58⟩ :: ⟨b1, true, row [lv] 24⟩ :: ⟨r, true, rdP lv a⟩ :: A))
    (hv : RdX A lv L.length (tisC L)) (ha : a ≤ L.length) (hlim : L.length ≤ 1000000) :
    CallsD Try.prog 27 #[ptr b2, ptr b3, ptr b5, ptr b1] (.panicking wrongC) w fun e u' w' => (∃ v, e = .returned v) ∧ settle u' = .returning ∧
      St M w0 w' (⟨b2, true, row [.slice none 0 0] 32⟩ :: ⟨b3, true, row [.int .i64 220, .int .i64 (endP L a)] 27⟩ :: ⟨b5, true, row [ptr r] 58⟩ :: ⟨b1, true, row [lv] 24⟩ :: ⟨r, true, rdP lv a⟩ :: A) := by
  obtain ⟨q, c, rfl⟩ := hv.len
  refine callsD_of_wpS Try.func27 rfl fun c₀ cs hu => ?_
  apply wpS_seq
  apply wpS_region
  simp [wpOpsS, go_sem, recoverD, hu, Try.ntmps27, Exit.thenS]
  refine wpS_of_wp (wp_of_W (n := 46) (L := [(4, .iface 90 (.agg #[])), (0, ptr b2), (1, ptr b3), (2, ptr b5), (3, ptr b1)]) (M := M) (w0 := w0) ⟨by simp, rfl, ?_⟩ hst ?_)
  · intro i v hi
    match i, hi with
    | 0, hi => cases hi; exact Array.getElem?_append_left (Nat.lt_of_succ_le (Nat.le_of_ble_eq_true rfl))
    | 1, hi => cases hi; exact Array.getElem?_append_left (Nat.lt_of_succ_le (Nat.le_of_ble_eq_true rfl))
    | 2, hi => cases hi; exact Array.getElem?_append_left (Nat.lt_of_succ_le (Nat.le_of_ble_eq_true rfl))
    | 3, hi => cases hi; exact Array.getElem?_append_left (Nat.lt_of_succ_le (Nat.le_of_ble_eq_true rfl))
    | 4, hi => cases hi; exact (Array.getElem?_append_right (Nat.le_of_ble_eq_true rfl)).trans (by simp)
    | i + 5, hi => cases (show none = some v from hi)
  by_cases hlt : a < L.length
  · obtain ⟨b, off, c1, arr, et, fr, wr, he, hmm, hcc, hgt⟩ := hv.pos (by omega)
    cases he
    have g0 : ∀ (f : Nat) u, (tiC (L.getD a ti0))[f]? = some u → ∀ o, o = off + (a * 5 + f) → arr[o]? = some u := fun f u h => hgt _ _ (tisC_get hlt h)
    have he : endP L a = (L.getD a ti0).a := by unfold endP; rw [if_pos hlt]
    obtain ⟨t, ht⟩ : ∃ t, L.getD a ti0 = t := ⟨_, rfl⟩
    rw [ht] at g0 he
    rw [he]
    repeat' (first | (apply gL; first | (apply Wl.ev rfl rfl; (focus (first | exact ev_move rfl | (apply gLoa; first | exact ev_loadAt (agT rfl) rfl (by repeat (first | exact hmm | apply List.Mem.tail)) (g0 3 _ rfl _ (by omega)) | exact ev_load (agT rfl) rfl (by repeat (first | exact List.Mem.head _ | apply List.Mem.tail)) rfl) | (apply gFie; first | exact ev_fieldAddr0 (fldT rfl) rfl | exact ev_fieldAddr (fldT rfl) rfl) | exact ev_lti rfl rfl | (apply gBui; first | (apply ev_build (bldT rfl) rfl; simp [fillP]; rfl)) | (apply gCal; first | exact ev_len_slice (slT rfl) rfl) | (apply gIxA; first | exact ev_indexAddr (slT rfl) (szT rfl) rfl rfl (by omega)) | exact ev_nilCheck_ptr rfl | exact ne_nil rfl))) | (refine wl_storeWhole rfl rfl rfl (szT rfl) (by repeat (first | rfl | refine all_one_cons ?_ ?_)) (by repeat (first | exact Upd.here | apply Upd.there)) (by rfl) ?_) | apply Wl.nil | (refine wl_store1 rfl rfl rfl rfl (szT rfl) (by repeat (first | exact Upd.here | apply Upd.there)) (by first | decide | (simp; done)) ?_; try simp only [List.set])) | (apply gQ; first | (apply Wq.ev rfl rfl; (focus (first | exact ev_move rfl | (apply gLoa; first | exact ev_loadAt (agT rfl) rfl (by repeat (first | exact hmm | apply List.Mem.tail)) (g0 3 _ rfl _ (by omega)) | exact ev_load (agT rfl) rfl (by repeat (first | exact List.Mem.head _ | apply List.Mem.tail)) rfl) | (apply gFie; first | exact ev_fieldAddr0 (fldT rfl) rfl | exact ev_fieldAddr (fldT rfl) rfl) | exact ev_lti rfl rfl | (apply gBui; first | (apply ev_build (bldT rfl) rfl; simp [fillP]; rfl)) | (apply gCal; first | exact ev_len_slice (slT rfl) rfl) | (apply gIxA; first | exact ev_indexAddr (slT rfl) (szT rfl) rfl rfl (by omega)) | exact ev_nilCheck_ptr rfl | exact ne_nil rfl))) | ((show Wq _ _ (Qt _ _ _ _) _ _ _ _ [] _ _); apply Wq.tail) | apply Wq.nil) | ((show W _ _ _ _ _ _ _ _ _); first | apply W.seq | ((show W _ _ _ _ _ _ (.inl (.region 4 _ true) :: _) _ _); refine W.regionT 9 mixed (by kernel_rfl) rfl rfl ?_) | (refine W.regionQ mixed (by kernel_rfl) ?_) | apply W.region | (refine W.condT rfl ?_) | (refine W.cond rfl ?_ ?_ <;> (intro h; try (exfalso; first | contradiction | omega | exact h rfl | exact h ⟨rfl, rfl⟩ | (exact Bool.false_ne_true ((by assumption : _ = false).symm.trans h)) | (exact Bool.false_ne_true (h.symm.trans (by assumption))))))))
    all_goals first | (refine W.endZ ?_; intro a1 w1 hf1 hs1; exact ⟨hf1.defers, _, rfl, .tuple #[], by simp [results, Try.results27], ⟨_, rfl⟩, rfl, hs1⟩) | contradiction | (exfalso; omega) | fail
  · by_cases h0 : 0 < L.length
    · obtain ⟨b, off, c1, arr, et, fr, wr, he, hmm, hcc, hgt⟩ := hv.pos (by omega)
      cases he
      have g0 : ∀ (f : Nat) u, (tiC (L.getD (L.length - 1) ti0))[f]? = some u → ∀ o, o = off + ((L.length - 1) * 5 + f) → arr[o]? = some u := fun f u h => hgt _ _ (tisC_get (by omega) h)
      have he : endP L a = IntKind.i64.wrap ((L.getD (L.length - 1) ti0).a + ((L.getD (L.length - 1) ti0).t.length : Nat)) := by unfold endP; rw [if_neg hlt, if_pos h0]
      obtain ⟨t, ht⟩ : ∃ t, L.getD (L.length - 1) ti0 = t := ⟨_, rfl⟩
      rw [ht] at g0 he
      rw [he]
      repeat' (first | (apply gL; first | (apply Wl.ev rfl rfl; (focus (first | exact ev_move rfl | (apply gLoa; first | exact ev_loadAt (agT rfl) rfl (by repeat (first | exact hmm | apply List.Mem.tail)) (g0 3 _ rfl _ (by omega)) | exact ev_loadAt (agT rfl) rfl (by repeat (first | exact hmm | apply List.Mem.tail)) (g0 1 _ rfl _ (by omega)) | exact ev_load (agT rfl) rfl (by repeat (first | exact List.Mem.head _ | apply List.Mem.tail)) rfl) | (apply gFie; first | exact ev_fieldAddr0 (fldT rfl) rfl | exact ev_fieldAddr (fldT rfl) rfl) | exact ev_assign rfl | (apply gBin; first | exact ev_lti rfl rfl | exact ev_gti rfl rfl | exact ev_sub64 rfl rfl (by omega) | exact ev_add rfl rfl) | (apply gBui; first | (apply ev_build (bldT rfl) rfl; simp [fillP]; rfl)) | (apply gCal; first | exact ev_len_slice (slT rfl) rfl | exact ev_len_string (strT rfl) rfl) | (apply gIxA; first | exact ev_indexAddr (slT rfl) (szT rfl) rfl rfl (by omega)) | exact ev_nilCheck_ptr rfl | exact ne_nil rfl))) | (refine wl_storeWhole rfl rfl rfl (szT rfl) (by repeat (first | rfl | refine all_one_cons ?_ ?_)) (by repeat (first | exact Upd.here | apply Upd.there)) (by rfl) ?_) | apply Wl.nil | (refine wl_store1 rfl rfl rfl rfl (szT rfl) (by repeat (first | exact Upd.here | apply Upd.there)) (by first | decide | (simp; done)) ?_; try simp only [List.set])) | (apply gQ; first | (apply Wq.ev rfl rfl; (focus (first | exact ev_move rfl | (apply gLoa; first | exact ev_loadAt (agT rfl) rfl (by repeat (first | exact hmm | apply List.Mem.tail)) (g0 3 _ rfl _ (by omega)) | exact ev_loadAt (agT rfl) rfl (by repeat (first | exact hmm | apply List.Mem.tail)) (g0 1 _ rfl _ (by omega)) | exact ev_load (agT rfl) rfl (by repeat (first | exact List.Mem.head _ | apply List.Mem.tail)) rfl) | (apply gFie; first | exact ev_fieldAddr0 (fldT rfl) rfl | exact ev_fieldAddr (fldT rfl) rfl) | exact ev_assign rfl | (apply gBin; first | exact ev_lti rfl rfl | exact ev_gti rfl rfl | exact ev_sub64 rfl rfl (by omega) | exact ev_add rfl rfl) | (apply gBui; first | (apply ev_build (bldT rfl) rfl; simp [fillP]; rfl)) | (apply gCal; first | exact ev_len_slice (slT rfl) rfl | exact ev_len_string (strT rfl) rfl) | (apply gIxA; first | exact ev_indexAddr (slT rfl) (szT rfl) rfl rfl (by omega)) | exact ev_nilCheck_ptr rfl | exact ne_nil rfl))) | ((show Wq _ _ (Qt _ _ _ _) _ _ _ _ [] _ _); apply Wq.tail) | apply Wq.nil) | ((show W _ _ _ _ _ _ _ _ _); first | apply W.seq | ((show W _ _ _ _ _ _ (.inl (.region 7 _ true) :: _) _ _); refine W.regionT 15 mixed (by kernel_rfl) rfl rfl ?_) | (refine W.regionQ mixed (by kernel_rfl) ?_) | apply W.region | (refine W.condT rfl ?_) | (refine W.cond rfl ?_ ?_ <;> (intro h; try (exfalso; first | contradiction | omega | exact h rfl | exact h ⟨rfl, rfl⟩ | (exact Bool.false_ne_true ((by assumption : _ = false).symm.trans h)) | (exact Bool.false_ne_true (h.symm.trans (by assumption))))))))
      all_goals first | (refine W.endZ ?_; intro a1 w1 hf1 hs1; exact ⟨hf1.defers, _, rfl, .tuple #[], by simp [results, Try.results27], ⟨_, rfl⟩, rfl, hs1⟩) | contradiction | (exfalso; omega) | fail
    · have he : endP L a = 0 := by unfold endP; rw [if_neg hlt, if_neg h0]
      rw [he]
      repeat' (first | (apply gL; first | (apply Wl.ev rfl rfl; (focus (first | exact ev_move rfl | (apply gLoa; first | exact ev_load (agT rfl) rfl (by repeat (first | exact List.Mem.head _ | apply List.Mem.tail)) rfl) | (apply gFie; first | exact ev_fieldAddr0 (fldT rfl) rfl) | exact ev_assign rfl | (apply gBin; first | exact ev_lti rfl rfl | exact ev_gti rfl rfl) | (apply gBui; first | (apply ev_build (bldT rfl) rfl; simp [fillP]; rfl)) | (apply gCal; first | exact ev_len_slice (slT rfl) rfl) | exact ev_nilCheck_ptr rfl | exact ne_nil rfl))) | (refine wl_storeWhole rfl rfl rfl (szT rfl) (by repeat (first | rfl | refine all_one_cons ?_ ?_)) (by repeat (first | exact Upd.here | apply Upd.there)) (by rfl) ?_) | apply Wl.nil) | (apply gQ; first | (apply Wq.ev rfl rfl; (focus (first | exact ev_move rfl | (apply gLoa; first | exact ev_load (agT rfl) rfl (by repeat (first | exact List.Mem.head _ | apply List.Mem.tail)) rfl) | (apply gFie; first | exact ev_fieldAddr0 (fldT rfl) rfl) | exact ev_assign rfl | (apply gBin; first | exact ev_lti rfl rfl | exact ev_gti rfl rfl) | (apply gBui; first | (apply ev_build (bldT rfl) rfl; simp [fillP]; rfl)) | (apply gCal; first | exact ev_len_slice (slT rfl) rfl) | exact ev_nilCheck_ptr rfl | exact ne_nil rfl))) | apply Wq.nil) | ((show W _ _ _ _ _ _ _ _ _); first | apply W.seq | (refine W.regionQ mixed (by kernel_rfl) ?_) | apply W.region | apply W.skip | (refine W.condT rfl ?_) | (refine W.cond rfl ?_ ?_ <;> (intro h; try (exfalso; first | contradiction | omega | exact h rfl | exact h ⟨rfl, rfl⟩ | (exact Bool.false_ne_true ((by assumption : _ = false).symm.trans h)) | (exact Bool.false_ne_true (h.symm.trans (by assumption))))))))
      all_goals first | (refine W.endZ ?_; intro a1 w1 hf1 hs1; exact ⟨hf1.defers, _, rfl, .tuple #[], by simp [results, Try.results27], ⟨_, rfl⟩, rfl, hs1⟩) | contradiction | (exfalso; omega) | fail
end Go.Proofs.Ytbinaeemcidicaa
