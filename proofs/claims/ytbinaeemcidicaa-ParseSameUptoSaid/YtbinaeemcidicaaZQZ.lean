/- Walks: the laws' short: a tree that is cut, in memory of its own. No condition. -/
import Derived.Test.YtbinaeemcidicaaZQY
namespace Go.Proofs.Ytbinaeemcidicaa
open Go.PB Go.RowKit
attribute [local irreducible] Go.Calls
/-- a node that is cut -/
def cutN (n : Nd) : Nd := ⟨n.kd, n.ty.take 40, n.tx.take 40, n.nm, n.ks.take 60, n.pl⟩
def cutK : Value → Value
  | .slice p n c => .slice p (min n 60) c
  | v => v
def plaV (x : Nk) : Nv := ⟨x.1, ownV x.1.ks.length x.2⟩
def cutV (x : Nk) : Nv := ⟨cutN x.1, cutK (ownV x.1.ks.length x.2)⟩
theorem nvsC_app (a b : List Nv) : nvsC (a ++ b) = nvsC a ++ nvsC b := by unfold nvsC; rw [List.flatMap_append]
theorem nvsC_cons (x : Nv) (b : List Nv) : nvsC (x :: b) = nvC x ++ nvsC b := by unfold nvsC; rw [List.flatMap_cons]
theorem nvsC_len : ∀ l : List Nv, (nvsC l).length = l.length * 6
  | [] => rfl
  | x :: l => by
    rw [nvsC_cons, List.length_append, nvsC_len l, List.length_cons]
    show 6 + l.length * 6 = _
    omega
theorem nds_pla : ∀ l : List Nk, ndsC l = nvsC (l.map plaV)
  | [] => rfl
  | x :: l => by
    rw [ndsC_cons, List.map_cons, nvsC_cons, nds_pla l]
    rfl
/-- the rows of which so many were cut -/
def rowsJ (N : List Nk) (j : Nat) : List Nv := (N.take j).map cutV ++ (N.drop j).map plaV
theorem rowsJ_split {N : List Nk} {j : Nat} (h : j < N.length) : rowsJ N j = (N.take j).map cutV ++ plaV N[j] :: (N.drop (j + 1)).map plaV ∧ rowsJ N (j + 1) = (N.take j).map cutV ++ cutV N[j] :: (N.drop (j + 1)).map plaV := by
  unfold rowsJ
  constructor
  · rw [List.drop_eq_getElem_cons h, List.map_cons]
  · rw [List.take_succ_eq_append_getElem h, List.map_append, List.append_assoc]
    rfl
theorem set3 {A B : List Nv} {x y : Nv} {j : Nat} (hj : A.length = j) (h0 : y.nd.kd = x.nd.kd) (h1 : y.nd.nm = x.nd.nm) (h2 : y.nd.pl = x.nd.pl) :
    (((nvsC (A ++ x :: B)).set (j * 6 + 4) y.kv).set (j * 6 + 2) (st y.nd.tx)).set (j * 6 + 1) (st y.nd.ty) = nvsC (A ++ y :: B) := by
  subst hj
  obtain ⟨⟨a1, a2, a3, a4, a5, a6⟩, a7⟩ := x
  obtain ⟨⟨b1, b2, b3, b4, b5, b6⟩, b7⟩ := y
  dsimp only at h0 h1 h2
  subst h0 h1 h2
  rw [nvsC_app, nvsC_app, nvsC_cons, nvsC_cons]
  have hl := nvsC_len A
  rw [List.set_append_right _ _ (by omega), List.set_append_right _ _ (by omega), List.set_append_right _ _ (by omega), hl, show A.length * 6 + 4 - A.length * 6 = 4 by omega, show A.length * 6 + 2 - A.length * 6 = 2 by omega, show A.length * 6 + 1 - A.length * 6 = 1 by omega]
  rfl
theorem at3 {A B : List Nv} {x : Nv} {j : Nat} (hj : A.length = j) (i : Nat) {v : Value} (h : (nvC x)[i]? = some v) : (nvsC (A ++ x :: B))[j * 6 + i]? = some v := by
  subst hj
  have hl := nvsC_len A
  obtain ⟨hi, _⟩ := List.getElem?_eq_some_iff.1 h
  rw [nvsC_app, nvsC_cons, List.getElem?_append_right (by omega), hl, show A.length * 6 + i - A.length * 6 = i by omega, List.getElem?_append_left hi]
  exact h
theorem RdX.cutK {R : List Ent} {v : Value} {ks : List Int} (h : RdX R v ks.length (intV ks)) : RdX R (cutK v) (ks.take 60).length (intV (ks.take 60)) := by
  rw [List.length_take, Nat.min_comm]
  rcases h with ⟨p, c, rfl, h2⟩ | ⟨b, off, c, arr, et, fr, wr, rfl, h2, h3, h4⟩
  · exact .inl ⟨p, c, by show Value.slice p (min 0 60) c = _; rfl, by omega⟩
  · refine .inr ⟨b, off, c, arr, et, fr, wr, rfl, h2, by omega, fun j u hu => h4 j u ?_⟩
    unfold intV at hu ⊢
    rw [List.map_take, List.getElem?_take] at hu
    split at hu
    · exact hu
    · cases hu
theorem take_min (l : List UInt8) (k : Nat) : l.take (min l.length k) = l.take k := by
  by_cases h : l.length ≤ k
  · rw [Nat.min_eq_left h, List.take_of_length_le (Nat.le_refl _), List.take_of_length_le h]
  · rw [Nat.min_eq_right (by omega)]
theorem nv_take {R : List Ent} {p : Option Addr} {c k : Nat} {l : List Nv} (h : RdT R (.slice p l.length c) l) (hk : k ≤ l.length) : RdT R (.slice p k c) (l.take k) := by
  refine ⟨?_, fun y hy => h.2 y (List.mem_of_mem_take hy)⟩
  rw [List.length_take, Nat.min_eq_left hk]
  have hget : ∀ (j : Nat) u, (nvsC (l.take k))[j]? = some u → (nvsC l)[j]? = some u := fun j u hu => by
    obtain ⟨hi, _⟩ := List.getElem?_eq_some_iff.1 hu
    conv => lhs; rw [← List.take_append_drop k l, nvsC_app, List.getElem?_append_left hi]
    exact hu
  rcases h.1 with ⟨p', c', h1, h2⟩ | ⟨b', off', c', arr, et, fr, wr, h1, h2, h3, h4⟩
  · have hk0 : k = 0 := by omega
    subst hk0
    exact .inl ⟨_, _, rfl, rfl⟩
  · cases h1
    exact .inr ⟨b', off', _, arr, et, fr, wr, rfl, h2, by omega, fun j u hu => h4 j u (hget j u hu)⟩
set_option maxRecDepth 100000 in
set_option maxHeartbeats 8000000 in
theorem short_ok {M : List Nat} {w0 w : World} {R : List Ent} {tv : Value} {l : List Nv} (hst : St M w0 w R) (hv : RdT R tv l) (hz : ∀ y ∈ l, y.nd.ks.length ≤ 1048576) (hlen : ∀ y ∈ l, y.nd.ty.length ≤ 9223372036854775807 ∧ y.nd.tx.length ≤ 9223372036854775807) (hl : l.length ≤ 9223372036854775807) :
    Calls Try.prog 15 #[.agg [tv].toArray] w (GivesS (fun x : Value × List Ent => .agg [x.1].toArray) (fun x => ∃ l', l'.map Nv.nd = (l.take 300).map (fun y => cutN y.nd) ∧ RdT x.2 x.1 l' ∧ x.1.oneCell' = true) M w0 fun x => R ++ x.2) := by
  obtain ⟨p, c, rfl⟩ := hv.1.len
  have hrm := hv.1.room
  have hv1 : RdT R (.slice p (min l.length 300) c) (l.take 300) := by
    have := nv_take hv (k := min l.length 300) (by omega)
    rwa [show l.take (min l.length 300) = l.take 300 by rw [List.take_eq_take_iff]; omega] at this
  have hz1 : ∀ y ∈ l.take 300, y.nd.ks.length ≤ 1048576 := fun y hy => hz y (List.mem_of_mem_take hy)
  refine calls_of_W (vs := [.agg [.slice p l.length c].toArray]) Try.func15 rfl Try.ntmps15 (Nat.le_of_ble_eq_true rfl) hst.fromHere ?_
  simp only [argL]
  repeat' (first | (apply gL; first | (apply Wl.ev rfl rfl; (focus (first | (apply gLoa; first | exact ev_load (agT rfl) rfl (by repeat (first | exact List.Mem.head _ | apply List.Mem.tail)) rfl | exact ev_loadWhole (agT rfl) (szT rfl) rfl (by repeat (first | exact List.Mem.head _ | apply List.Mem.tail)) rfl) | (apply gFie; first | exact ev_fieldAddr0 (fldT rfl) rfl) | (apply gCal; first | exact ev_len_slice (slT rfl) rfl | exact ev_min rfl rfl) | (apply gSli; first | exact ev_sliceG (k := min l.length 300) (slT rfl) (szT rfl) rfl rfl (by omega) (by omega) (fun e => by have := hrm.2 e; omega))))) | ((show Wl _ _ _ _ _ _ _ (⟨some 1, .box _ _, _, _, _, _⟩ :: _) _ _); refine wl_box rfl rfl rfl rfl ?_; intro b1) | ((show Wl _ _ _ _ _ _ _ (⟨some 2, .alloc _, _, _, _, _⟩ :: _) _ _); refine wl_alloc rfl rfl (zeroT rfl) ?_; intro b2) | (refine wl_storeWhole rfl rfl rfl (szT rfl) (by repeat (first | rfl | exact own_oneF _ _ | refine all_one_cons ?_ ?_)) (by repeat (first | exact Upd.here | apply Upd.there)) (by rfl) ?_) | (refine wl_store1 rfl rfl rfl (by first | rfl | exact own_oneF _ _) (szT rfl) (by repeat (first | exact Upd.here | apply Upd.there)) (by first | decide | (simp; done)) ?_; try simp only [List.set]) | ((show Wl _ _ _ _ _ _ _ (⟨some 14, .call ⟨.value (.func 18), _, _⟩, _, _, _, _⟩ :: _) _ _); refine wl_callS (H' := fun x : List Nk × Ow => ⟨b2, true, row [.slice none 0 0] 32⟩ :: ⟨b1, true, row [.slice p (min l.length 300) c] 32⟩ :: ((R ++ ndKH x.1) ++ ownH 38 x.2)) rfl rfl has18 rfl (fun w hs => copied_ok hs (hv1.mono (by intro e he; repeat (first | exact he | apply List.Mem.tail))) (by rw [List.length_take]; omega) hz1) ?_; rintro ⟨N2, o⟩ ⟨h2, ho, hN2⟩; dsimp only at h2 ho hN2) | apply Wl.nil) | (apply gQ; first | (apply Wq.ev rfl rfl; (focus (first | (apply gLoa; first | exact ev_load (agT rfl) rfl (by repeat (first | exact List.Mem.head _ | apply List.Mem.tail)) rfl | exact ev_loadWhole (agT rfl) (szT rfl) rfl (by repeat (first | exact List.Mem.head _ | apply List.Mem.tail)) rfl) | (apply gFie; first | exact ev_fieldAddr0 (fldT rfl) rfl) | (apply gCal; first | exact ev_len_slice (slT rfl) rfl | exact ev_min rfl rfl) | (apply gSli; first | exact ev_sliceG (k := min l.length 300) (slT rfl) (szT rfl) rfl rfl (by omega) (by omega) (fun e => by have := hrm.2 e; omega)))))) | ((show W _ _ _ _ _ _ _ _ _); first | apply W.seq | apply W.region))
  all_goals first | contradiction | skip
  have hnl : N2.length ≤ 300 := by
    have := congrArg List.length h2
    rw [List.length_map, List.length_map, List.length_take] at this
    omega
  have hcm : (l.take 300).map (fun y => cutN y.nd) = (N2.map Prod.fst).map cutN := by rw [h2, List.map_map]; rfl
  by_cases h0 : N2.length = 0
  · obtain ⟨op, om, oc, hov⟩ := ownV_sl N2.length o
    have hn0 : N2 = [] := List.eq_nil_of_length_eq_zero h0
    rw [hov]
    have hom : om = 0 := by
      have := (RdX.own (R := ownH 38 o) (e := 38) ho (fun p hp => hp)).len
      obtain ⟨p', c', hh⟩ := this
      rw [hov] at hh
      cases hh
      exact h0
    subst hom
    repeat' (first | (apply gL; first | (apply Wl.ev rfl rfl; (focus (first | exact ev_move rfl | (apply gLoa; first | exact ev_loadWhole (agT rfl) (szT rfl) rfl (by repeat (first | exact List.Mem.head _ | apply List.Mem.tail)) rfl) | exact ev_lti rfl rfl | (apply gCal; first | exact ev_len_slice (slT rfl) rfl)))) | (refine wl_storeWhole rfl rfl rfl (szT rfl) (by repeat (first | rfl | exact own_oneF _ _ | refine all_one_cons ?_ ?_)) (by repeat (first | exact Upd.here | apply Upd.there)) (by rfl) ?_) | apply Wl.nil) | (apply gQ; first | (apply Wq.ev rfl rfl; (focus (first | exact ev_move rfl | (apply gLoa; first | exact ev_loadWhole (agT rfl) (szT rfl) rfl (by repeat (first | exact List.Mem.head _ | apply List.Mem.tail)) rfl) | exact ev_lti rfl rfl | (apply gCal; first | exact ev_len_slice (slT rfl) rfl))))) | ((show W _ _ _ _ _ _ _ _ _); first | apply W.seq | ((show W _ _ _ _ _ _ (.inl (.loop _) :: _) _ _); refine W.loop (X := Unit) (fun _ => [(1, ptr b1), (2, ptr b2), (17, .int .i64 ((0 : Nat) : Int)), (18, .int .i64 0)]) (fun _ => ⟨b2, true, row [.slice none 0 0] 32⟩ :: ⟨b1, true, row [.slice op 0 oc] 32⟩ :: ((R ++ ndKH N2) ++ ownH 38 o)) (fun _ => True) (fun _ => 0) () trivial (by repeat (first | exact SubL.nil | refine SubL.cons rfl ?_)) (List.Sublist.refl _) ?_; intro u0 hu0; clear hu0) | apply W.region | apply W.block | (refine W.exit rfl ?_) | (refine W.condF rfl ?_) | (refine W.retc rfl rfl (agT rfl) (by repeat (first | exact List.Mem.head _ | apply List.Mem.tail)) (szT rfl) ?_; intro w hs)))
    all_goals first | exact GivesS.ofC hst hs (.slice op 0 oc, ownH 38 o) ⟨[], by rw [hcm, hn0]; rfl, ⟨by have := RdX.own (R := ownH 38 o) (e := 38) ho (fun p hp => hp); rw [hov, hn0] at this; exact this, fun y hy => by cases hy⟩, rfl⟩ rfl (by intro e; simp only [List.count_append, cnt_cons]; omega) | contradiction | (exfalso; omega) | fail
  obtain ⟨nb, cap, cur0, rfl, hcap, hsz, hget⟩ := own_some ho (by omega)
  repeat' (first | (apply gL; first | (apply Wl.ev rfl rfl; (focus (first | exact ev_move rfl | (apply gCal; first | exact ev_len_slice (slT rfl) rfl)))) | apply Wl.nil) | (apply gQ; first | (apply Wq.ev rfl rfl; (focus (first | exact ev_move rfl | (apply gCal; first | exact ev_len_slice (slT rfl) rfl))))) | ((show W _ _ _ _ _ _ _ _ _); first | (((show W _ _ _ _ _ _ (.inl (.loop _) :: _) _ _); refine W.reC (H' := ⟨nb, true, .cells cur0 38 (0, 0)⟩ :: ⟨b2, true, row [.slice none 0 0] 32⟩ :: ⟨b1, true, row [.slice (some ⟨nb, 0, none⟩) N2.length cap] 32⟩ :: (R ++ ndKH N2)) (by intro e; simp only [List.count_append, cnt_cons, List.count_nil, ownH_some, ownV_some]; omega) ?_; ((show W _ _ _ _ _ _ (.inl (.loop _) :: _) _ _); refine W.loop (X := Nat × Array Value) (fun x => [(1, ptr b1), (2, ptr b2), (17, .int .i64 (N2.length : Nat)), (18, .int .i64 (x.1 : Nat))]) (fun x => ⟨nb, true, .cells x.2 38 (0, 0)⟩ :: ⟨b2, true, row [.slice none 0 0] 32⟩ :: ⟨b1, true, row [.slice (some ⟨nb, 0, none⟩) N2.length cap] 32⟩ :: (R ++ ndKH N2)) (fun x => x.1 ≤ N2.length ∧ ownOk N2.length 6 (nvsC (rowsJ N2 x.1)) (some (nb, cap, x.2))) (fun x => N2.length - x.1) (0, cur0) ⟨Nat.zero_le _, by show ownOk N2.length 6 (nvsC (rowsJ N2 0)) _; unfold rowsJ; rw [List.take_zero, List.drop_zero, List.map_nil, List.nil_append, ← nds_pla]; exact ho⟩ (by repeat (first | exact SubL.nil | refine SubL.cons rfl ?_)) (List.Sublist.refl _) ?_))) | apply W.block))
  all_goals first | contradiction | skip
  rintro ⟨j, cur⟩ ⟨hj, hok⟩
  dsimp only at hj hok ⊢
  by_cases hlt : j < N2.length
  · obtain ⟨hr1, hr2⟩ := rowsJ_split hlt
    have hlA : ((N2.take j).map cutV).length = j := by rw [List.length_map, List.length_take]; omega
    obtain ⟨_, _, _, heq, hcap', hsz', hget'⟩ := own_some hok (by omega)
    cases heq
    have hkid : RdX (R ++ ndKH N2) (ownV N2[j].1.ks.length N2[j].2) N2[j].1.ks.length (intV N2[j].1.ks) := RdX.own (hN2 _ (List.getElem_mem hlt)) (fun p hp => List.mem_append_right _ (List.mem_flatMap.2 ⟨_, List.getElem_mem hlt, hp⟩))
    have hzj : N2[j].1.ks.length ≤ 1048576 ∧ N2[j].1.ty.length ≤ 9223372036854775807 ∧ N2[j].1.tx.length ≤ 9223372036854775807 := by
      have hm : N2[j].1 ∈ (l.take 300).map Nv.nd := by rw [← h2]; exact List.mem_map.2 ⟨_, List.getElem_mem hlt, rfl⟩
      obtain ⟨y, hy, hye⟩ := List.mem_map.1 hm
      rw [← hye]
      exact ⟨hz1 y hy, hlen y (List.mem_of_mem_take hy)⟩
    have c4 : cur[j * 6 + 4]? = some (ownV N2[j].1.ks.length N2[j].2) := hget' _ _ (by rw [hr1]; exact at3 hlA 4 rfl)
    have c2 : cur[j * 6 + 2]? = some (st N2[j].1.tx) := hget' _ _ (by rw [hr1]; exact at3 hlA 2 rfl)
    have c1' : cur[j * 6 + 1]? = some (st N2[j].1.ty) := hget' _ _ (by rw [hr1]; exact at3 hlA 1 rfl)
    have hnext : ∀ kv, cutK (ownV N2[j].1.ks.length N2[j].2) = kv → ownOk N2.length 6 (nvsC (rowsJ N2 (j + 1))) (some (nb, cap, ((cur.setIfInBounds (j * 6 + 4) kv).setIfInBounds (j * 6 + 2) (st (N2[j].1.tx.take 40))).setIfInBounds (j * 6 + 1) (st (N2[j].1.ty.take 40)))) := fun kv hkv => by
      rw [hr2, ← set3 (x := plaV N2[j]) (y := cutV N2[j]) hlA rfl rfl rfl, ← hr1]
      subst hkv
      exact own_setN (own_setN (own_setN hok))
    obtain ⟨kp, kc, hkv⟩ := hkid.len
    rw [hkv] at hkid c4 hnext
    have hnext := hnext _ rfl
    have hkr := hkid.room
    obtain ⟨⟨⟨kd, ty, tx, nm, ks, pl⟩, ow⟩, hx⟩ : ∃ x, N2[j] = x := ⟨_, rfl⟩
    rw [hx] at c4 c2 c1' hnext hkr hzj
    dsimp only at c4 c2 c1' hnext hkr hzj
    have e4 : 0 + ((j : Nat) : Int).toNat * 6 = j * 6 := by omega
    have hc4 : cur[0 + ((j : Nat) : Int).toNat * 6 + 4]? = some (.slice kp ks.length kc) := by rw [e4]; exact c4
    have hc2 : cur[0 + ((j : Nat) : Int).toNat * 6 + 2]? = some (st tx) := by rw [e4]; exact c2
    have hc1 : cur[0 + ((j : Nat) : Int).toNat * 6 + 1]? = some (st ty) := by rw [e4]; exact c1'
    repeat' (first | (apply gL; first | (apply Wl.ev rfl rfl; (focus (first | exact ev_move rfl | (apply gLoa; first | exact ev_loadAt (agT rfl) rfl (by repeat (first | exact List.Mem.head _ | apply List.Mem.tail)) hc4 | exact ev_loadAt (agT rfl) rfl (by repeat (first | exact List.Mem.head _ | apply List.Mem.tail)) hc2 | exact ev_loadAt (agT rfl) rfl (by repeat (first | exact List.Mem.head _ | apply List.Mem.tail)) hc1 | exact ev_load (agT rfl) rfl (by repeat (first | exact List.Mem.head _ | apply List.Mem.tail)) rfl) | (apply gFie; first | exact ev_fieldAddr0 (fldT rfl) rfl | exact ev_fieldAddr (fldT rfl) rfl) | exact ev_assign rfl | (apply gBin; first | exact ev_lti rfl rfl | exact ev_add64 rfl rfl (by omega)) | (apply gCal; first | exact ev_len_slice (slT rfl) rfl | exact ev_len_string (strT rfl) rfl | exact ev_min rfl rfl) | (apply gIxA; first | exact ev_indexAddr (slT rfl) (szT rfl) rfl rfl (by omega)) | (apply gSli; first | exact ev_sliceG (k := min ks.length 60) (slT rfl) (szT rfl) rfl rfl (by omega) (by omega) (fun e => by have := hkr.2 e; omega) | exact (ev_slice_string_hi (strT rfl) rfl rfl (by omega)).to (show _ = st (tx.take 40) from by rw [← take_min tx 40]; exact congrArg (fun k => st (tx.take k)) (by omega)) | exact (ev_slice_string_hi (strT rfl) rfl rfl (by omega)).to (show _ = st (ty.take 40) from by rw [← take_min ty 40]; exact congrArg (fun k => st (ty.take k)) (by omega))) | exact ev_nilCheck_ptr rfl))) | (refine wl_storeCell rfl rfl rfl rfl (szT rfl) (by repeat (first | exact Upd.here | apply Upd.there)) (by first | omega | (simp only [Array.size_setIfInBounds]; omega)) (fun h => absurd h.2 (Nat.not_lt_zero _)) ?_) | apply Wl.nil) | (apply gQ; first | (apply Wq.ev rfl rfl; (focus (first | exact ev_move rfl | (apply gLoa; first | exact ev_loadAt (agT rfl) rfl (by repeat (first | exact List.Mem.head _ | apply List.Mem.tail)) hc4 | exact ev_loadAt (agT rfl) rfl (by repeat (first | exact List.Mem.head _ | apply List.Mem.tail)) hc2 | exact ev_loadAt (agT rfl) rfl (by repeat (first | exact List.Mem.head _ | apply List.Mem.tail)) hc1 | exact ev_load (agT rfl) rfl (by repeat (first | exact List.Mem.head _ | apply List.Mem.tail)) rfl) | (apply gFie; first | exact ev_fieldAddr0 (fldT rfl) rfl | exact ev_fieldAddr (fldT rfl) rfl) | exact ev_assign rfl | (apply gBin; first | exact ev_lti rfl rfl | exact ev_add64 rfl rfl (by omega)) | (apply gCal; first | exact ev_len_slice (slT rfl) rfl | exact ev_len_string (strT rfl) rfl | exact ev_min rfl rfl) | (apply gIxA; first | exact ev_indexAddr (slT rfl) (szT rfl) rfl rfl (by omega)) | (apply gSli; first | exact ev_sliceG (k := min ks.length 60) (slT rfl) (szT rfl) rfl rfl (by omega) (by omega) (fun e => by have := hkr.2 e; omega) | exact (ev_slice_string_hi (strT rfl) rfl rfl (by omega)).to (show _ = st (tx.take 40) from by rw [← take_min tx 40]; exact congrArg (fun k => st (tx.take k)) (by omega)) | exact (ev_slice_string_hi (strT rfl) rfl rfl (by omega)).to (show _ = st (ty.take 40) from by rw [← take_min ty 40]; exact congrArg (fun k => st (ty.take k)) (by omega))) | exact ev_nilCheck_ptr rfl)))) | ((show W _ _ _ _ _ _ _ _ _); first | apply W.seq | ((show W _ _ _ _ _ _ (.inl (.region 7 _ true) :: _) _ _); refine W.regionM [38, 41, 44] [] [(⟨nb, true, .cells cur 38 (0, 0)⟩ : Ent)] mixed ?_) | apply W.region | apply W.block | apply W.blk | apply W.skip | (refine W.cond rfl ?_ ?_ <;> (intro h; try (exfalso; first | contradiction | omega | exact h rfl | exact h ⟨rfl, rfl⟩ | (exact Bool.false_ne_true ((by assumption : _ = false).symm.trans h)) | (exact Bool.false_ne_true (h.symm.trans (by assumption))))))) | ((show Wm _ _ _ _ _ _ _ _ _ _ _ _ _ _ _ _); first | ((refine Wm.all (by rfl) (by decide +kernel) ?_)) | (refine Wm.done (by decide +kernel) ?_) | (refine Wm.not (by decide +kernel) ?_) | (refine Wm.skip1 (by kernel_rfl) rfl (by kernel_rfl) (by decide +kernel) (by decide) rfl rfl (by repeat (first | exact SubH.nil | apply SubH.keep | apply SubH.drop | exact List.Sublist.refl _ | exact List.sublist_append_right _ _ | exact List.sublist_append_left _ _)) (by repeat (first | exact SubH.nil | apply SubH.keep | apply SubH.drop | exact List.Sublist.refl _ | exact List.sublist_append_right _ _ | exact List.sublist_append_left _ _)) ?_) | (refine Wm.take1 (by kernel_rfl) rfl (by kernel_rfl) (by decide +kernel) (by decide) rfl rfl (by first | exact ev_move rfl | (apply gLoa; first | exact ev_loadAt (agT rfl) rfl (by repeat (first | exact List.Mem.head _ | apply List.Mem.tail)) hc4 | exact ev_loadAt (agT rfl) rfl (by repeat (first | exact List.Mem.head _ | apply List.Mem.tail)) hc2 | exact ev_loadAt (agT rfl) rfl (by repeat (first | exact List.Mem.head _ | apply List.Mem.tail)) hc1 | exact ev_load (agT rfl) rfl (by repeat (first | exact List.Mem.head _ | apply List.Mem.tail)) rfl) | (apply gFie; first | exact ev_fieldAddr0 (fldT rfl) rfl | exact ev_fieldAddr (fldT rfl) rfl) | exact ev_assign rfl | (apply gBin; first | exact ev_lti rfl rfl | exact ev_add64 rfl rfl (by omega)) | (apply gCal; first | exact ev_len_slice (slT rfl) rfl | exact ev_len_string (strT rfl) rfl | exact ev_min rfl rfl) | (apply gIxA; first | exact ev_indexAddr (slT rfl) (szT rfl) rfl rfl (by omega)) | (apply gSli; first | exact ev_sliceG (k := min ks.length 60) (slT rfl) (szT rfl) rfl rfl (by omega) (by omega) (fun e => by have := hkr.2 e; omega) | exact (ev_slice_string_hi (strT rfl) rfl rfl (by omega)).to (show _ = st (tx.take 40) from by rw [← take_min tx 40]; exact congrArg (fun k => st (tx.take k)) (by omega)) | exact (ev_slice_string_hi (strT rfl) rfl rfl (by omega)).to (show _ = st (ty.take 40) from by rw [← take_min ty 40]; exact congrArg (fun k => st (ty.take k)) (by omega))) | exact ev_nilCheck_ptr rfl) (by repeat (first | exact SubH.nil | apply SubH.keep | apply SubH.drop | exact List.Sublist.refl _ | exact List.sublist_append_right _ _ | exact List.sublist_append_left _ _)) (by repeat (first | exact SubH.nil | apply SubH.keep | apply SubH.drop | exact List.Sublist.refl _ | exact List.sublist_append_right _ _ | exact List.sublist_append_left _ _)) ?_) | (refine Wm.take0 (by kernel_rfl) rfl (by kernel_rfl) (by decide +kernel) (by decide +kernel) (by decide) (by decide) rfl rfl (by first | exact ev_move rfl | (apply gLoa; first | exact ev_loadAt (agT rfl) rfl (by repeat (first | exact List.Mem.head _ | apply List.Mem.tail)) hc4 | exact ev_loadAt (agT rfl) rfl (by repeat (first | exact List.Mem.head _ | apply List.Mem.tail)) hc2 | exact ev_loadAt (agT rfl) rfl (by repeat (first | exact List.Mem.head _ | apply List.Mem.tail)) hc1 | exact ev_load (agT rfl) rfl (by repeat (first | exact List.Mem.head _ | apply List.Mem.tail)) rfl) | (apply gFie; first | exact ev_fieldAddr0 (fldT rfl) rfl | exact ev_fieldAddr (fldT rfl) rfl) | exact ev_assign rfl | (apply gBin; first | exact ev_lti rfl rfl | exact ev_add64 rfl rfl (by omega)) | (apply gCal; first | exact ev_len_slice (slT rfl) rfl | exact ev_len_string (strT rfl) rfl | exact ev_min rfl rfl) | (apply gIxA; first | exact ev_indexAddr (slT rfl) (szT rfl) rfl rfl (by omega)) | (apply gSli; first | exact ev_sliceG (k := min ks.length 60) (slT rfl) (szT rfl) rfl rfl (by omega) (by omega) (fun e => by have := hkr.2 e; omega) | exact (ev_slice_string_hi (strT rfl) rfl rfl (by omega)).to (show _ = st (tx.take 40) from by rw [← take_min tx 40]; exact congrArg (fun k => st (tx.take k)) (by omega)) | exact (ev_slice_string_hi (strT rfl) rfl rfl (by omega)).to (show _ = st (ty.take 40) from by rw [← take_min ty 40]; exact congrArg (fun k => st (ty.take k)) (by omega))) | exact ev_nilCheck_ptr rfl) (by repeat (first | exact SubH.nil | apply SubH.keep | apply SubH.drop | exact List.Sublist.refl _ | exact List.sublist_append_right _ _ | exact List.sublist_append_left _ _)) (by repeat (first | exact SubH.nil | apply SubH.keep | apply SubH.drop | exact List.Sublist.refl _ | exact List.sublist_append_right _ _ | exact List.sublist_append_left _ _)) ?_) | ((fail_if_success (refine Wm.chk rfl rfl ?_)); (refine Wm.split (by kernel_rfl) rfl rfl rfl ?_ ?_ <;> (intro h; try (exfalso; first | contradiction | omega | exact h rfl | exact h ⟨rfl, rfl⟩ | (exact Bool.false_ne_true ((by assumption : _ = false).symm.trans h)) | (exact Bool.false_ne_true (h.symm.trans (by assumption))))))) | ((fail_if_success (refine Wm.chk rfl rfl ?_)); (refine Wm.splitB (by kernel_rfl) rfl rfl rfl ?_ ?_ <;> (intro h; try (exfalso; first | contradiction | omega | exact h rfl | exact h ⟨rfl, rfl⟩ | (exact Bool.false_ne_true ((by assumption : _ = false).symm.trans h)) | (exact Bool.false_ne_true (h.symm.trans (by assumption))))))) | apply Wm.next) | apply AllO.nil | apply AllO.cons | (refine Or.inl (by decide +kernel)) | ((show _ ∨ Wl _ _ _ _ _ _ _ _ _ _); apply Or.inr) | (refine Wl.nilM (by repeat (first | exact SubH.nil | apply SubH.keep | apply SubH.drop | exact List.Sublist.refl _ | exact List.sublist_append_right _ _ | exact List.sublist_append_left _ _)) (by repeat (first | exact SubH.nil | apply SubH.keep | apply SubH.drop | exact List.Sublist.refl _ | exact List.sublist_append_right _ _ | exact List.sublist_append_left _ _)) ?_))
    all_goals first | (rw [e4]; exact W.again (j + 1, _) ⟨hlt, hnext⟩ (by show N2.length - (j + 1) < N2.length - j; omega) (by repeat (first | exact SubL.nil | refine SubL.cons rfl ?_)) (List.Sublist.refl _)) | contradiction | (exfalso; omega) | fail
  · obtain rfl : j = N2.length := by omega
    have hall : rowsJ N2 N2.length = N2.map cutV := by unfold rowsJ; rw [List.take_length, List.drop_length, List.map_nil, List.append_nil]
    rw [hall] at hok
    have hfin : RdT (⟨nb, true, .cells cur 38 (0, 0)⟩ :: ndKH N2) (.slice (some ⟨nb, 0, none⟩) N2.length cap) (N2.map cutV) := by
      refine ⟨?_, fun y hy => ?_⟩
      · rw [List.length_map]
        exact RdX.own (e := 38) hok (fun p hp => by rw [List.mem_singleton.1 hp]; exact List.Mem.head _)
      · obtain ⟨x, hx, rfl⟩ := List.mem_map.1 hy
        exact RdX.cutK (RdX.own (hN2 x hx) (fun p hp => List.Mem.tail _ (List.mem_flatMap.2 ⟨x, hx, hp⟩)))
    have hmap : (N2.map cutV).map Nv.nd = (l.take 300).map (fun y => cutN y.nd) := by
      rw [hcm, List.map_map, List.map_map]
      rfl
    repeat' (first | (apply gL; first | (apply Wl.ev rfl rfl; (focus (first | (apply gLoa; first | exact ev_loadWhole (agT rfl) (szT rfl) rfl (by repeat (first | exact List.Mem.head _ | apply List.Mem.tail)) rfl) | exact ev_lti rfl rfl))) | (refine wl_storeWhole rfl rfl rfl (szT rfl) (by repeat (first | rfl | exact own_oneF _ _ | refine all_one_cons ?_ ?_)) (by repeat (first | exact Upd.here | apply Upd.there)) (by rfl) ?_) | apply Wl.nil) | (apply gQ; first | (apply Wq.ev rfl rfl; (focus (first | (apply gLoa; first | exact ev_loadWhole (agT rfl) (szT rfl) rfl (by repeat (first | exact List.Mem.head _ | apply List.Mem.tail)) rfl) | exact ev_lti rfl rfl)))) | ((show W _ _ _ _ _ _ _ _ _); first | apply W.seq | apply W.region | (refine W.exit rfl ?_) | (refine W.cond rfl ?_ ?_ <;> (intro h; try (exfalso; first | contradiction | omega | exact h rfl | exact h ⟨rfl, rfl⟩ | (exact Bool.false_ne_true ((by assumption : _ = false).symm.trans h)) | (exact Bool.false_ne_true (h.symm.trans (by assumption)))))) | (refine W.retc rfl rfl (agT rfl) (by repeat (first | exact List.Mem.head _ | apply List.Mem.tail)) (szT rfl) ?_; intro w hs)))
    all_goals first | exact GivesS.ofC hst hs (.slice (some ⟨nb, 0, none⟩) N2.length cap, ⟨nb, true, .cells cur 38 (0, 0)⟩ :: ndKH N2) ⟨_, hmap, hfin, rfl⟩ rfl (by intro e; simp only [List.count_append, cnt_cons]; omega) | contradiction | (exfalso; omega) | fail
end Go.Proofs.Ytbinaeemcidicaa
