/- Walks: the laws' copied: a tree in memory of its own. No condition. -/
import Derived.Test.YtbinaeemcidicaaZQX
namespace Go.PB
open Go.RowKit
/-- where an own slice's block stands -/
def OwnAt (H : List Ent) (e : TypeId) (o : Ow) (H' : Ow → List Ent) : Prop := ∃ A B, H = A ++ (ownH e o ++ B) ∧ ∀ o', H' o' = A ++ (ownH e o' ++ B)
theorem OwnAt.here {B : List Ent} {b cap : Nat} {cur : Array Value} {e : TypeId} : OwnAt (⟨b, true, .cells cur e (0, 0)⟩ :: B) e (some (b, cap, cur)) (fun o' => ownH e o' ++ B) := ⟨[], B, rfl, fun _ => rfl⟩
theorem OwnAt.there {H : List Ent} {e : TypeId} {o : Ow} {H' : Ow → List Ent} {p : Ent} (h : OwnAt H e o H') : OwnAt (p :: H) e o (fun o' => p :: H' o') := by
  obtain ⟨A, B, rfl, h2⟩ := h
  exact ⟨p :: A, B, rfl, fun o' => by show p :: H' o' = _; rw [h2]; rfl⟩
end Go.PB
namespace Go.Proofs.Ytbinaeemcidicaa
open Go.PB Go.RowKit
attribute [local irreducible] Go.Calls
/-- a slice's cells laid behind an empty one: a copy -/
theorem wl_append_cp {P : Program} {ops : Array Oper} {Q : Exit → Act → World → Prop} {M : List Nat} {w0 : World} {n : Nat} {D : List Deferred} {L : List (Nat × Value)} {H : List Ent} {rest : List Oper} {d : Tmp} {oty t : TypeId} {pos : String} {after : Array Edge} {g : Option (Nat × Bool)} {x y : Operand}
    {e : TypeId} {bytes bi k : Nat} {v : Value} {xs z : List Value} {H' : Ow → List Ent} (hg : gdv ops L g = some true) (hd : Nat.blt d n = true)
    (ht : Sl P t e) (hs : Sz P e 1) (hby : By P e bytes) (hz : Zero P e z) (hzl : z.length = 1) (hx : evo L x = some (.slice (some ⟨bi, 0, none⟩) 0 0)) (hy : evo L y = some v) (hv : RdX H v k xs) (hl : xs.length = k) (h1 : ∀ u ∈ xs, u.oneCell' = true)
    (h63 : k ≤ maxLen) (hb : k * bytes ≤ 140737488355328) (hA : OwnAt H e (some (bi, 0, #[])) H') (h : ∀ o', ownOk k 1 xs o' → Wl P ops Q M w0 n D rest ((d, ownV k o') :: L) (H' o')) :
    Wl P ops Q M w0 n D (⟨some d, .call { callee := .builtin .append, args := #[x, y], argTypes := #[t, t] }, oty, pos, after, g⟩ :: rest) L H := by
  obtain ⟨A, B, rfl, hH'⟩ := hA
  have hnone : ∀ p c, v = .slice p 0 c → k = 0 → Wl P ops Q M w0 n D (⟨some d, .call { callee := .builtin .append, args := #[x, y], argTypes := #[t, t] }, oty, pos, after, g⟩ :: rest) L (A ++ (ownH e (some (bi, 0, #[])) ++ B)) := fun p c hvv hk => by
    subst hvv hk
    have hxs : xs = [] := List.eq_nil_of_length_eq_zero hl
    subst hxs
    have := h (some (bi, 0, #[])) ⟨Nat.le_refl _, Nat.zero_le _, rfl, rfl, rfl⟩
    rw [hH'] at this
    exact Wl.ev hg hd (ev_append_none ht hs hx hy (Nat.le_refl _)) this
  rcases hv with ⟨p, c, hvv, hk⟩ | ⟨b, off, c, arr, et, fr, wr, hvv, hm, _, hc⟩
  · exact hnone p c hvv hk
  · by_cases hk : k = 0
    · exact hnone _ c (by rw [hvv, hk]) hk
    · subst hvv
      have hp : List.Perm (A ++ (ownH e (some (bi, 0, #[])) ++ B)) ((A ++ B) ++ ownH e (some (bi, 0, #[]))) := by
        rw [List.append_assoc]
        exact List.Perm.append_left A List.perm_append_comm
      refine Wl.reC (fun e => Nat.le_of_eq (hp.count_eq e).symm) ?_
      refine wl_append_own (m := 0) (k := k) (o := some (bi, 0, #[])) (xs := []) (news := xs) hg hd ht hs hby hz hzl hx hy ⟨Nat.le_refl _, Nat.zero_le _, by simp, by simp, by simp⟩ (hp.subset hm) (by rw [hl, Nat.mul_one]) hc h1 (by omega) (by rw [Nat.zero_add]; exact h63) (by rw [Nat.zero_add]; exact hb) TailUp.app ?_
      intro o1 hok1
      rw [Nat.zero_add, List.nil_append] at hok1
      have := h o1 hok1
      rw [hH'] at this
      rw [Nat.zero_add]
      refine Wl.reC (fun e => ?_) this
      simp only [List.count_append]
      omega
theorem intV_one (l : List Int) : ∀ u ∈ intV l, u.oneCell' = true := by
  intro u hu
  obtain ⟨x, _, rfl⟩ := List.mem_map.1 hu
  rfl
/-- a node as it comes in: what it is, its kids' slice -/
structure Nv where
  nd : Nd
  kv : Value
def nvC (y : Nv) : List Value := [.int .i64 y.nd.kd, st y.nd.ty, st y.nd.tx, .int .i32 y.nd.nm, y.kv, .int .i64 y.nd.pl]
def nvsC (l : List Nv) : List Value := l.flatMap nvC
abbrev nv0 : Nv := ⟨ndZ, .slice none 0 0⟩
theorem nvsC_get {l : List Nv} {j i : Nat} {v : Value} (hj : j < l.length) (h : (nvC (l.getD j nv0))[i]? = some v) : (nvsC l)[j * 6 + i]? = some v := flat_get (f := nvC) (c := 6) (fun _ => rfl) hj h
/-- a tree that may be read -/
def RdT (R : List Ent) (v : Value) (l : List Nv) : Prop := RdX R v l.length (nvsC l) ∧ ∀ y ∈ l, RdX R y.kv y.nd.ks.length (intV y.nd.ks)
theorem RdT.mono {R R' : List Ent} {v : Value} {l : List Nv} (h : RdT R v l) (hR : ∀ p ∈ R, p ∈ R') : RdT R' v l := ⟨h.1.mono hR, fun y hy => (h.2 y hy).mono hR⟩
theorem getD_memN {l : List Nv} {j : Nat} (h : j < l.length) : l.getD j nv0 ∈ l := by
  simp only [List.getD, List.getElem?_eq_getElem h, Option.getD_some]
  exact List.getElem_mem h
set_option maxRecDepth 100000 in
set_option maxHeartbeats 8000000 in
theorem copied_ok {M : List Nat} {w0 w : World} {R : List Ent} {tv : Value} {l : List Nv} (hst : St M w0 w R) (hv : RdT R tv l) (hl : l.length ≤ 1000) (hz : ∀ y ∈ l, y.nd.ks.length ≤ 1048576) :
    Calls Try.prog 18 #[.agg [tv].toArray] w (GivesS (fun x : List Nk × Ow => .agg [ownV x.1.length x.2].toArray) (fun x => x.1.map Prod.fst = l.map Nv.nd ∧ ownOk x.1.length 6 (ndsC x.1) x.2 ∧ ndKok x.1) M w0 fun x => (R ++ ndKH x.1) ++ ownH 38 x.2) := by
  obtain ⟨p, c, rfl⟩ := hv.1.len
  refine calls_of_W (vs := [.agg [.slice p l.length c].toArray]) Try.func18 rfl Try.ntmps18 (Nat.le_of_ble_eq_true rfl) hst.fromHere ?_
  simp only [argL]
  repeat' (first | (apply gL; first | (apply Wl.ev rfl rfl; (focus (first | exact ev_move rfl | (apply gLoa; first | exact ev_load (agT rfl) rfl (by repeat (first | exact List.Mem.head _ | apply List.Mem.tail)) rfl) | (apply gFie; first | exact ev_fieldAddr0 (fldT rfl) rfl) | exact ev_assign rfl | (apply gCal; first | exact ev_len_slice (slT rfl) rfl)))) | ((show Wl _ _ _ _ _ _ _ (⟨some 1, .box _ _, _, _, _, _⟩ :: _) _ _); refine wl_box rfl rfl rfl rfl ?_; intro b1) | ((show Wl _ _ _ _ _ _ _ (⟨some 2, .alloc _, _, _, _, _⟩ :: _) _ _); refine wl_alloc rfl rfl (zeroT rfl) ?_; intro b2) | apply Wl.nil) | (apply gQ; first | (apply Wq.ev rfl rfl; (focus (first | exact ev_move rfl | (apply gLoa; first | exact ev_load (agT rfl) rfl (by repeat (first | exact List.Mem.head _ | apply List.Mem.tail)) rfl) | (apply gFie; first | exact ev_fieldAddr0 (fldT rfl) rfl) | exact ev_assign rfl | (apply gCal; first | exact ev_len_slice (slT rfl) rfl))))) | ((show W _ _ _ _ _ _ _ _ _); first | apply W.seq | (refine W.loop (X := Nat × List Nk × Ow) (fun x => [(1, ptr b1), (2, ptr b2), (3, ownV x.1 x.2.2), (7, .slice p l.length c), (8, .int .i64 (l.length : Nat)), (9, .int .i64 (x.1 : Nat))]) (fun x => ⟨b2, true, row [.slice none 0 0] 32⟩ :: ⟨b1, true, row [.slice p l.length c] 32⟩ :: ((R ++ ndKH x.2.1) ++ ownH 38 x.2.2)) (fun x => x.1 ≤ l.length ∧ x.2.1.length = x.1 ∧ x.2.1.map Prod.fst = (l.map Nv.nd).take x.1 ∧ ndKok x.2.1 ∧ ownOk x.1 6 (ndsC x.2.1) x.2.2) (fun x => l.length - x.1) (0, [], none) ⟨Nat.zero_le _, rfl, rfl, fun k hk => (by cases hk), rfl, rfl⟩ (by repeat (first | exact SubL.nil | refine SubL.cons rfl ?_)) (by simp only [ownH_none, ndKH_nil, List.append_nil]; exact List.Sublist.refl _) ?_) | apply W.region | apply W.block))
  rintro ⟨j, N2, o⟩ ⟨hj, hkl, hkc, hks, hok⟩
  dsimp only at hj hkl hkc hks hok ⊢
  by_cases hlt : j < l.length
  · obtain ⟨b0, off, c1, arr, et, fr, wr, he, hm, hcc, hgt⟩ := hv.1.pos (by omega)
    cases he
    have g0 : ∀ (f : Nat) u, (nvC (l.getD j nv0))[f]? = some u → ∀ o, o = off + (j * 6 + f) → arr[o]? = some u := fun f u h => hgt _ _ (nvsC_get hlt h)
    have hyl := getD_memN hlt
    have hyv := hv.2 _ hyl
    have hzy := hz _ hyl
    have htk : (l.map Nv.nd).take (j + 1) = (l.map Nv.nd).take j ++ [(l.getD j nv0).nd] := by
      rw [List.take_succ_eq_append_getElem (by rw [List.length_map]; exact hlt)]
      simp [List.getD, hlt]
    obtain ⟨⟨⟨kd, ty, tx, nm, ks, pl⟩, kv⟩, hy⟩ : ∃ y, l.getD j nv0 = y := ⟨_, rfl⟩
    rw [hy] at g0 hyv htk hzy
    obtain ⟨kp, kc, rfl⟩ : ∃ p c, kv = .slice p ks.length c := hyv.len
    dsimp only at hyv htk hzy
    repeat' (first | (apply gL; first | (apply Wl.ev rfl rfl; (focus (first | exact ev_move rfl | (apply gLoa; first | exact (ev_loadAggAt (agT rfl) (szT rfl) rfl (List.Mem.tail _ (List.Mem.tail _ (List.mem_append_left _ (List.mem_append_left _ hm)))) (fun i v h => g0 i v h _ (by omega)) rfl).to (show _ = Value.agg [.int .i64 kd, st ty, st tx, .int .i32 nm, .slice kp ks.length kc, .int .i64 pl].toArray from rfl) | exact ev_load (agT rfl) rfl (by repeat (first | exact List.Mem.head _ | apply List.Mem.tail)) rfl | exact ev_loadWhole (agT rfl) (szT rfl) rfl (by repeat (first | exact List.Mem.head _ | apply List.Mem.tail)) rfl) | (apply gFie; first | exact ev_fieldAddr0 (fldT rfl) rfl) | exact ev_assign rfl | (apply gBin; first | exact ev_lti rfl rfl | exact ev_add64 rfl rfl (by omega)) | (apply gIxA; first | exact ev_indexAddr (slT rfl) (szT rfl) rfl rfl (by omega))))) | ((show Wl _ _ _ _ _ _ _ (⟨some 5, .alloc _, _, _, _, _⟩ :: _) _ _); refine wl_alloc rfl rfl (zeroT rfl) ?_; intro b5) | (refine wl_storeWhole rfl rfl rfl (szT rfl) (by repeat (first | rfl | exact own_oneF _ _ | refine all_one_cons ?_ ?_)) (by repeat (first | exact Upd.here | apply Upd.there)) (by rfl) ?_) | (refine wl_store1 rfl rfl rfl (by first | rfl | exact own_oneF _ _) (szT rfl) (by repeat (first | exact Upd.here | apply Upd.there)) (by first | decide | (simp; done)) ?_; try simp only [List.set]) | ((show Wl _ _ _ _ _ _ _ (⟨some 13, .buildSlice _ _ _, _, _, _, _⟩ :: _) _ _); refine wl_buildSlice (len := 0) (ps := []) (lv := []) rfl rfl (slT rfl) (szT rfl) (zeroT rfl) rfl (by simp) rfl rfl ?_; intro bi) | ((show Wl _ _ _ _ _ _ _ (⟨some 16, .call _, _, _, _, _⟩ :: _) _ _); refine wl_append_cp (bi := bi) (k := ks.length) (xs := intV ks) rfl rfl (slT rfl) (szT rfl) (byT rfl) (zeroT rfl) rfl rfl rfl (hyv.mono (by intro p hp; repeat (first | exact hp | apply List.Mem.tail | apply List.mem_append_left))) (by simp [intV]) (intV_one ks) (by simp only [maxLen]; omega) (by omega) (by repeat (first | exact OwnAt.here | apply OwnAt.there)) ?_; intro oi hoi; refine Wl.reC (H' := ⟨b5, true, row [.int .i64 kd, st ty, st tx, .int .i32 nm, .slice kp ks.length kc, .int .i64 pl] 38⟩ :: ⟨b2, true, row [.slice none 0 0] 32⟩ :: ⟨b1, true, row [.slice (some ⟨b0, off, none⟩) l.length c] 32⟩ :: ((R ++ (ndKH N2 ++ ownH 3 oi)) ++ ownH 38 o)) (by intro e; simp only [List.count_append, cnt_cons]; omega) ?_) | ((show Wl _ _ _ _ _ _ _ (⟨some 21, .call _, _, _, _, _⟩ :: _) _ _); refine Wl.reC (H' := ⟨b, true, row [.int .i64 kd, st ty, st tx, .int .i32 nm, ownV ks.length oi, .int .i64 pl] 38⟩ :: (⟨b5, true, row [.int .i64 kd, st ty, st tx, .int .i32 nm, ownV ks.length oi, .int .i64 pl] 38⟩ : Ent) :: ⟨b2, true, row [.slice none 0 0] 32⟩ :: ⟨b1, true, row [.slice (some ⟨b0, off, none⟩) l.length c] 32⟩ :: ((R ++ (ndKH N2 ++ ownH 3 oi)) ++ ownH 38 o)) (by intro e; simp only [List.count_append, cnt_cons]; omega) ?_; refine wl_append_own (m := j) (k := 1) (o := o) (xs := ndsC N2) (news := [.int .i64 kd, st ty, st tx, .int .i32 nm, ownV ks.length oi, .int .i64 pl]) rfl rfl (slT rfl) (szT rfl) (byT rfl) (zeroT rfl) rfl rfl rfl hok (by repeat (first | exact List.Mem.head _ | apply List.Mem.tail)) rfl (fun j v h => by simpa using h) (by intro u hu; simp only [List.mem_cons, List.not_mem_nil, or_false] at hu; rcases hu with rfl | rfl | rfl | rfl | rfl | rfl <;> first | rfl | exact own_oneF _ _) (by omega) (by simp only [maxLen]; omega) (by omega) (by repeat (first | exact TailUp.app | apply TailUp.there)) ?_; intro o1 hok1) | apply Wl.nil | (apply wl_buildSlice rfl rfl (slT rfl) (szT rfl) (zeroT rfl) rfl (by decide) rfl; (focus (simp [fillP, List.range_succ]; rfl)); intro b)) | (apply gQ; first | (apply Wq.ev rfl rfl; (focus (first | exact ev_move rfl | (apply gLoa; first | exact (ev_loadAggAt (agT rfl) (szT rfl) rfl (List.Mem.tail _ (List.Mem.tail _ (List.mem_append_left _ (List.mem_append_left _ hm)))) (fun i v h => g0 i v h _ (by omega)) rfl).to (show _ = Value.agg [.int .i64 kd, st ty, st tx, .int .i32 nm, .slice kp ks.length kc, .int .i64 pl].toArray from rfl) | exact ev_load (agT rfl) rfl (by repeat (first | exact List.Mem.head _ | apply List.Mem.tail)) rfl | exact ev_loadWhole (agT rfl) (szT rfl) rfl (by repeat (first | exact List.Mem.head _ | apply List.Mem.tail)) rfl) | (apply gFie; first | exact ev_fieldAddr0 (fldT rfl) rfl) | exact ev_assign rfl | (apply gBin; first | exact ev_lti rfl rfl | exact ev_add64 rfl rfl (by omega)) | (apply gIxA; first | exact ev_indexAddr (slT rfl) (szT rfl) rfl rfl (by omega)))))) | ((show W _ _ _ _ _ _ _ _ _); first | apply W.seq | apply W.region | apply W.block | apply W.blk | apply W.skip | (refine W.cond rfl ?_ ?_ <;> (intro h; try (exfalso; first | contradiction | omega | exact h rfl | exact h ⟨rfl, rfl⟩ | (exact Bool.false_ne_true ((by assumption : _ = false).symm.trans h)) | (exact Bool.false_ne_true (h.symm.trans (by assumption))))))))
    all_goals first | (refine W.reC (H' := ⟨b2, true, row [.slice none 0 0] 32⟩ :: ⟨b1, true, row [.slice (some ⟨b0, off, none⟩) l.length c] 32⟩ :: ((R ++ ndKH (N2 ++ [((⟨kd, ty, tx, nm, ks, pl⟩, oi) : Nk)])) ++ ownH 38 o1)) (by intro e; simp only [List.count_append, cnt_cons, List.count_nil, ndKH_app, ndKH_cons, ndKH_nil]; omega) ?_; exact W.again (j + 1, N2 ++ [((⟨kd, ty, tx, nm, ks, pl⟩, oi) : Nk)], o1) ⟨hlt, by simp [hkl], by rw [List.map_append, hkc, htk]; rfl, fun x hx => (by rcases List.mem_append.1 hx with hx | hx; exact hks x hx; rw [List.mem_singleton.1 hx]; exact hoi), by rw [ndsC_app]; exact hok1⟩ (by show l.length - (j + 1) < l.length - j; omega) (by repeat (first | exact SubL.nil | refine SubL.cons rfl ?_)) (List.Sublist.refl _)) | contradiction | (exfalso; omega) | fail
  · obtain rfl : j = l.length := by omega
    obtain ⟨op, om, oc, hov⟩ := ownV_sl l.length o
    rw [hov]
    repeat' (first | (apply gL; first | (apply Wl.ev rfl rfl; (focus (first | exact ev_move rfl | exact ev_lti rfl rfl | (apply gBui; first | (apply ev_build (bldT rfl) rfl; simp [fillP]; rfl))))) | (refine wl_storeWhole rfl rfl rfl (szT rfl) (by repeat (first | rfl | exact own_oneF _ _ | refine all_one_cons ?_ ?_)) (by repeat (first | exact Upd.here | apply Upd.there)) (by rfl) ?_) | apply Wl.nil) | (apply gQ; first | (apply Wq.ev rfl rfl; (focus (first | exact ev_move rfl | exact ev_lti rfl rfl | (apply gBui; first | (apply ev_build (bldT rfl) rfl; simp [fillP]; rfl)))))) | ((show W _ _ _ _ _ _ _ _ _); first | apply W.seq | apply W.region | (refine W.exit rfl ?_) | (refine W.cond rfl ?_ ?_ <;> (intro h; try (exfalso; first | contradiction | omega | exact h rfl | exact h ⟨rfl, rfl⟩ | (exact Bool.false_ne_true ((by assumption : _ = false).symm.trans h)) | (exact Bool.false_ne_true (h.symm.trans (by assumption)))))) | (refine W.retc rfl rfl (agT rfl) (by repeat (first | exact List.Mem.head _ | apply List.Mem.tail)) (szT rfl) ?_; intro w hs)))
    all_goals first | (rw [List.take_of_length_le (by rw [List.length_map]; exact Nat.le_refl _)] at hkc; exact GivesS.ofC hst hs (N2, o) ⟨hkc, by rw [hkl]; exact hok, hks⟩ (by dsimp only; rw [hkl, hov]) (by intro e; simp only [List.count_append, cnt_cons]; omega)) | contradiction | (exfalso; omega) | fail
end Go.Proofs.Ytbinaeemcidicaa
