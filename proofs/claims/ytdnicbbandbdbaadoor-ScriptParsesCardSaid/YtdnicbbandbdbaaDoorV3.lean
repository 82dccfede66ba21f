/- Walks: the document's bytes, words, lines. No condition. -/
import Derived.Test.YtdnicbbandbdbaaDoorV2
namespace Go.Proofs.YtdnicbbandbdbaaDoor
open Go.PB Go.RowKit
attribute [local irreducible] Go.Calls
/-- own bytes as a text -/
theorem ev_bytesOwn {P : Program} {M : List Nat} {w0 : World} {n : Nat} {D : List Deferred} {L : List (Nat × Value)} {H : List Ent} {oty t t' : TypeId} {x : Operand} {e et : TypeId} {m : Nat} {l : List UInt8} {o : Ow}
    (hs : P.underlying t = some (.slice e)) (he : P.underlying e = some (.int .u8)) (hdt : P.underlying t' = some .string) (hx : evo L x = some (ownV m o)) (hok : ownOk m 1 (bytV l) o) (hm : ∀ p ∈ ownH et o, p ∈ H) : Ev P M w0 n D L H (.convert t t' x) oty (st l) := by
  cases o with
  | none =>
    obtain ⟨h1, h2⟩ := hok
    have : l = [] := List.map_eq_nil_iff.1 h2
    subst this
    subst h1
    exact ev_bytesStr_nil hs he hdt hx
  | some o =>
    obtain ⟨b, cap, cur⟩ := o
    obtain ⟨q1, q2, q3, q4, q5⟩ := hok
    simp only [Nat.mul_one] at q1 q2 q3 q4 q5
    have hl : m = l.length := by rw [← q5]; simp [bytV]
    subst hl
    exact ev_bytesStr hs he hdt hx (hm _ (List.Mem.head _)) fun j hj => by
      have e : (bytV l)[j]? = some (by8 l[j]) := by simp [bytV, hj]
      rw [← q4, List.getElem?_take, if_pos hj] at e
      rw [Nat.zero_add]
      simpa using e
theorem hexS_succ {bs : List UInt8} {j : Nat} (hj : j < bs.length) : hexS (bs.take (j + 1)) = hexS (bs.take j) ++ hexB (bs.getD j 0) := by
  have := hexM_succ (l := []) hj
  unfold hexM at this
  simpa using this
theorem hex_vals (x : UInt8) : IntKind.u8.wrap ((x.toNat : Int).tdiv 16) = ((x.toNat / 16 : Nat) : Int) ∧ (x.toNat : Int).tmod 16 = ((x.toNat % 16 : Nat) : Int) := by
  have : ∀ k : Fin 256, IntKind.u8.wrap ((k.val : Int).tdiv 16) = ((k.val / 16 : Nat) : Int) ∧ (k.val : Int).tmod 16 = ((k.val % 16 : Nat) : Int) := by decide +kernel
  exact this ⟨x.toNat, x.toNat_lt⟩
theorem hexL_get (i : Nat) : Value.int .u8 ((hexL.getD ((i : Nat) : Int).toNat 0).toNat) = by8 (hexD i) := rfl
set_option maxRecDepth 100000 in
theorem hex28_ok {M : List Nat} {w0 w : World} {R : List Ent} {bv : Value} {bs : List UInt8} (hst : St M w0 w R) (hbv : RdX R bv bs.length (bytV bs)) (hbl : bs.length ≤ 1000000) : Calls Tryd.prog 38 #[bv] w (Give (st (hexS bs)) w) := by
  have hbv' := hbv.ro
  obtain ⟨p2, c2, rfl⟩ := hbv.len
  refine give_of_W (vs := [.slice p2 bs.length c2]) Tryd.func38 rfl Tryd.ntmps38 (Nat.le_of_ble_eq_true rfl) hst.reads ?_
  simp only [argL]
  repeat' (first | (apply gL; first | (apply Wl.ev rfl rfl; (focus (first | exact ev_move rfl | exact ev_assign rfl | (apply gCal; first | exact ev_len_slice (slT rfl) rfl)))) | apply Wl.nil) | (apply gQ; first | (apply Wq.ev rfl rfl; (focus (first | exact ev_move rfl | exact ev_assign rfl | (apply gCal; first | exact ev_len_slice (slT rfl) rfl))))) | ((show W _ _ _ _ _ _ _ _ _); first | apply W.seq | (refine W.loop (X := Nat × Ow) (fun x => [(3, ownV (2 * x.1) x.2), (6, .slice p2 bs.length c2), (7, .int .i64 (bs.length : Nat)), (8, .int .i64 (x.1 : Nat))]) (fun x => ro R ++ ownH 5 x.2) (fun x => x.1 ≤ bs.length ∧ ownOk (2 * x.1) 1 (bytV (hexS (bs.take x.1))) x.2) (fun x => bs.length - x.1) (0, none) ⟨Nat.zero_le _, rfl, rfl⟩ (by repeat (first | exact SubL.nil | refine SubL.cons rfl ?_)) (by rw [ownH_none, List.append_nil]; exact List.Sublist.refl _) ?_) | apply W.region | apply W.block))
  rintro ⟨j, o⟩ ⟨hj, hok⟩
  dsimp only at hj hok ⊢
  by_cases hlt : j < bs.length
  · obtain ⟨g, off, c, arr, et, fr, wr, he, hm, hcc, hgt⟩ := hbv'.pos (by omega)
    cases he
    have g0 := hgt j _ (bytV_get hlt)
    have hsu := hexS_succ hlt
    obtain ⟨y, hy⟩ : ∃ y, bs.getD j 0 = y := ⟨_, rfl⟩
    rw [hy] at g0 hsu
    have hv := hex_vals y
    have hyl := y.toNat_lt
    have hhl : hexL.length = 16 := by decide
    obtain ⟨u, hu⟩ : ∃ u, y.toNat / 16 = u := ⟨_, rfl⟩
    obtain ⟨v, hv'⟩ : ∃ v, y.toNat % 16 = v := ⟨_, rfl⟩
    have hyb : hexB y = [hexD u, hexD v] := by unfold hexB; rw [hu, hv']
    rw [hu, hv'] at hv
    rw [hyb] at hsu
    repeat' (first | (apply gL; first | (apply Wl.ev rfl rfl; (focus (first | exact ev_move rfl | (apply gLoa; first | exact ev_loadAt (agT rfl) rfl (List.mem_append_left _ hm) (g0 _ (by omega))) | exact ev_assign rfl | (apply gBin; first | exact (ev_quo rfl rfl (by decide)).to (show _ = Value.int .u8 (u : Nat) from congrArg (Value.int .u8) hv.1) | exact (ev_rem rfl rfl (by decide)).to (show _ = Value.int .u8 (v : Nat) from congrArg (Value.int .u8) hv.2) | exact ev_lti rfl rfl | exact ev_add64 rfl rfl (by omega)) | (apply gIxA; first | exact ev_indexAddr (slT rfl) (szT rfl) rfl rfl (by omega)) | (apply gIdx; first | exact (ev_index_string (l := hexL) (strT rfl) rfl rfl (by omega)).to (hexL_get u) | exact (ev_index_string (l := hexL) (strT rfl) rfl rfl (by omega)).to (hexL_get v))))) | (apply wl_buildSlice rfl rfl (slT rfl) (szT rfl) (zeroT rfl) rfl (by decide) rfl; (focus (simp [fillP, List.range_succ]; rfl)); intro mb) | (refine wl_append_own (m := 2 * j) (k := 2) (o := o) (xs := bytV (hexS (bs.take j))) (news := [by8 (hexD u), by8 (hexD v)]) rfl rfl (slT rfl) (szT rfl) (byT rfl) (zeroT rfl) rfl rfl rfl hok (by repeat (first | exact List.Mem.head _ | apply List.Mem.tail)) rfl (fun j v h => by simpa using h) (by simp [Value.oneCell']) (by omega) (by simp only [maxLen]; omega) (by omega) (by repeat (first | exact TailUp.app | apply TailUp.there)) ?_; intro o1 hok1) | apply Wl.nil) | (apply gQ; first | (apply Wq.ev rfl rfl; (focus (first | exact ev_move rfl | (apply gLoa; first | exact ev_loadAt (agT rfl) rfl (List.mem_append_left _ hm) (g0 _ (by omega))) | exact ev_assign rfl | (apply gBin; first | exact (ev_quo rfl rfl (by decide)).to (show _ = Value.int .u8 (u : Nat) from congrArg (Value.int .u8) hv.1) | exact (ev_rem rfl rfl (by decide)).to (show _ = Value.int .u8 (v : Nat) from congrArg (Value.int .u8) hv.2) | exact ev_lti rfl rfl | exact ev_add64 rfl rfl (by omega)) | (apply gIxA; first | exact ev_indexAddr (slT rfl) (szT rfl) rfl rfl (by omega)) | (apply gIdx; first | exact (ev_index_string (l := hexL) (strT rfl) rfl rfl (by omega)).to (hexL_get u) | exact (ev_index_string (l := hexL) (strT rfl) rfl rfl (by omega)).to (hexL_get v)))))) | ((show W _ _ _ _ _ _ _ _ _); first | apply W.seq | ((show W _ _ _ _ _ _ (.inl (.region 5 _ true) :: _) _ _); refine W.regionD (H0 := ro R) mixed (List.sublist_append_left _ _) ?_) | apply W.region | apply W.block | apply W.blk | apply W.skip | (refine W.cond rfl ?_ ?_ <;> (intro h; try (exfalso; first | contradiction | omega | exact h rfl | exact h ⟨rfl, rfl⟩ | (exact Bool.false_ne_true ((by assumption : _ = false).symm.trans h)) | (exact Bool.false_ne_true (h.symm.trans (by assumption))))))) | ((show Wd _ _ _ _ _ _ _ _ _ _ _ _ _); first | ((refine Wd.all (by rfl) (by decide +kernel) ?_)) | (refine Wd.done (by decide +kernel) ?_) | (refine Wd.not (by decide +kernel) ?_) | (refine Wd.skip (by kernel_rfl) rfl (by kernel_rfl) (by decide +kernel) rfl rfl (by repeat (first | exact SubH.nil | apply SubH.keep | apply SubH.drop | exact List.Sublist.refl _ | exact List.sublist_append_left _ _)) ?_) | (refine Wd.take (by kernel_rfl) rfl (by kernel_rfl) (by decide +kernel) rfl rfl (by first | exact ev_move rfl | (apply gLoa; first | exact ev_loadAt (agT rfl) rfl (List.mem_append_left _ hm) (g0 _ (by omega))) | exact ev_assign rfl | (apply gBin; first | exact (ev_quo rfl rfl (by decide)).to (show _ = Value.int .u8 (u : Nat) from congrArg (Value.int .u8) hv.1) | exact (ev_rem rfl rfl (by decide)).to (show _ = Value.int .u8 (v : Nat) from congrArg (Value.int .u8) hv.2) | exact ev_lti rfl rfl | exact ev_add64 rfl rfl (by omega)) | (apply gIxA; first | exact ev_indexAddr (slT rfl) (szT rfl) rfl rfl (by omega)) | (apply gIdx; first | exact (ev_index_string (l := hexL) (strT rfl) rfl rfl (by omega)).to (hexL_get u) | exact (ev_index_string (l := hexL) (strT rfl) rfl rfl (by omega)).to (hexL_get v))) (by repeat (first | exact SubH.nil | apply SubH.keep | apply SubH.drop | exact List.Sublist.refl _ | exact List.sublist_append_left _ _)) ?_) | (refine Wd.split (by kernel_rfl) rfl rfl rfl ?_ ?_ <;> (intro h; try (exfalso; first | contradiction | omega | exact h rfl | exact h ⟨rfl, rfl⟩ | (exact Bool.false_ne_true ((by assumption : _ = false).symm.trans h)) | (exact Bool.false_ne_true (h.symm.trans (by assumption)))))) | (refine Wd.splitB (by kernel_rfl) rfl rfl rfl ?_ ?_ <;> (intro h; try (exfalso; first | contradiction | omega | exact h rfl | exact h ⟨rfl, rfl⟩ | (exact Bool.false_ne_true ((by assumption : _ = false).symm.trans h)) | (exact Bool.false_ne_true (h.symm.trans (by assumption)))))) | apply Wd.next) | apply AllO.nil | apply AllO.cons | (refine Or.inl (by decide +kernel)) | ((show _ ∨ Wl _ _ _ _ _ _ _ _ _ _); apply Or.inr) | (refine Wl.nilD (by repeat (first | exact SubH.nil | apply SubH.keep | apply SubH.drop | exact List.Sublist.refl _ | exact List.sublist_append_left _ _)) ?_))
    all_goals first
      | exact W.again (j + 1, o1) ⟨hlt, by show ownOk (2 * (j + 1)) 1 (bytV (hexS (bs.take (j + 1)))) o1; rw [hsu, bytV_app]; exact hok1⟩ (by show bs.length - (j + 1) < bs.length - j; omega) (by repeat (first | exact SubL.nil | refine SubL.cons rfl ?_)) (by repeat (first | exact SubH.nil | apply SubH.keep | apply SubH.drop | exact List.Sublist.refl _ | exact List.sublist_append_left _ _))
      | fail
  · obtain rfl : j = bs.length := by omega
    rw [List.take_length] at hok
    repeat' (first | (apply gL; first | (apply Wl.ev rfl rfl; (focus (first | exact ev_move rfl | exact ev_assign rfl | exact ev_lti rfl rfl | exact ev_bytesOwn (et := 5) (slT rfl) (intT rfl) (strT rfl) rfl hok (fun p hp => List.mem_append_right _ hp)))) | apply Wl.nil) | (apply gQ; first | (apply Wq.ev rfl rfl; (focus (first | exact ev_move rfl | exact ev_assign rfl | exact ev_lti rfl rfl | exact ev_bytesOwn (et := 5) (slT rfl) (intT rfl) (strT rfl) rfl hok (fun p hp => List.mem_append_right _ hp))))) | ((show W _ _ _ _ _ _ _ _ _); first | apply W.seq | apply W.region | (refine W.exit rfl ?_) | (refine W.cond rfl ?_ ?_ <;> (intro h; try (exfalso; first | contradiction | omega | exact h rfl | exact h ⟨rfl, rfl⟩ | (exact Bool.false_ne_true ((by assumption : _ = false).symm.trans h)) | (exact Bool.false_ne_true (h.symm.trans (by assumption)))))) | (refine W.ret1 rfl rfl ?_; intro w hs)))
    all_goals first | exact ret_eq hs rfl | fail
end Go.Proofs.YtdnicbbandbdbaaDoor
