/- Walks of the laws' small functions: whether two rows of tokens are one, whether the layer does anything. No condition but the listed table's values. -/
import Derived.Test.YthhfandandfeeaaDoorMN
namespace Go.Proofs.YthhfandandfeeaaDoor
open Go.PB Go.RowKit
attribute [local irreducible] Go.Calls
instance tiDec : DecidableEq Ti := fun a b => decidable_of_iff (a.k = b.k ∧ a.t = b.t ∧ a.x = b.x ∧ a.a = b.a ∧ a.n = b.n) (by cases a; cases b; simp)
theorem eqL_ti (a b : Ti) : eqL (tiC a) (tiC b) = true ↔ a = b := by
  cases a; cases b
  simp [tiC, eqL, eqC]
theorem RdI.ro {R : List Ent} {v : Value} {l : List Ti} (h : RdI R v l) : RdI (ro R) v l := by
  rcases h with h | ⟨b, off, c, arr, et, fr, wr, h1, h2, h3⟩
  · exact .inl h
  · exact .inr ⟨b, off, c, arr, et, fr, false, h1, mem_ro h2, h3⟩
theorem RdI.mono {R R' : List Ent} {v : Value} {l : List Ti} (h : RdI R v l) (hR : ∀ p ∈ R, p ∈ R') : RdI R' v l := by
  rcases h with h | ⟨b, off, c, arr, et, fr, wr, h1, h2, h3⟩
  · exact .inl h
  · exact .inr ⟨b, off, c, arr, et, fr, wr, h1, hR _ h2, h3⟩
set_option maxRecDepth 100000 in
set_option maxHeartbeats 4000000 in
theorem psame_ok {M : List Nat} {w0 w : World} {H : List Ent} {v u : Value} {l m : List Ti} (hst : St M w0 w H) (hv : RdI H v l) (hu : RdI H u m) (hl : l.length ≤ 4611686018427387904) :
    Calls Tryd.prog 12 #[v, u] w (Give (.bool (decide (l = m))) w) := by
  by_cases hlen : l.length = m.length
  · rcases Nat.eq_zero_or_pos l.length with h0 | h0
    · obtain rfl : l = [] := List.eq_nil_of_length_eq_zero h0
      obtain rfl : m = [] := List.eq_nil_of_length_eq_zero (by omega)
      obtain ⟨p, c, rfl⟩ := hv.len
      obtain ⟨p', c', rfl⟩ := hu.len
      refine give_of_W (vs := [.slice p 0 c, .slice p' 0 c']) Tryd.func12 rfl Tryd.ntmps12 (Nat.le_of_ble_eq_true rfl) (St.nil w _) ?_
      simp only [argL, Nat.zero_add]
      repeat' (first | ((show Wl _ _ _ _ _ _ _ _ _ _); first | (apply Wl.ev rfl rfl; (focus (first | ((show Ev _ _ _ _ _ _ _ (.move _) _ _); first | exact ev_move rfl) | ((show Ev _ _ _ _ _ _ _ (.assign _) _ _); first | exact ev_assign rfl) | ((show Ev _ _ _ _ _ _ _ (.binOp _ _ _ _ _) _ _); first | exact ev_nei rfl rfl | exact ev_lti rfl rfl) | ((show Ev _ _ _ _ _ _ _ (.call _) _ _); first | exact ev_len_slice (slT rfl) rfl)))) | apply Wl.nil) | ((show Wq _ _ _ _ _ _ _ _ _ _); first | (apply Wq.ev rfl rfl; (focus (first | ((show Ev _ _ _ _ _ _ _ (.move _) _ _); first | exact ev_move rfl) | ((show Ev _ _ _ _ _ _ _ (.assign _) _ _); first | exact ev_assign rfl) | ((show Ev _ _ _ _ _ _ _ (.binOp _ _ _ _ _) _ _); first | exact ev_nei rfl rfl | exact ev_lti rfl rfl) | ((show Ev _ _ _ _ _ _ _ (.call _) _ _); first | exact ev_len_slice (slT rfl) rfl))))) | ((show W _ _ _ _ _ _ _ _ _); first | apply W.seq | (refine W.rounds 1 ?_) | apply W.round | apply W.region | apply W.block | apply W.skip | (refine W.exit rfl ?_) | (refine W.condF rfl ?_) | (refine W.ret1 rfl rfl ?_; intro w hs)))
      exact ret_eq hs rfl
    · obtain ⟨b, off, c, arr, et, fr, wr, rfl, hm1, hg1⟩ := hv.ro.cons h0
      obtain ⟨b', off', c', arr', et', fr', wr', rfl, hm2, hg2⟩ := hu.ro.cons (by omega)
      refine give_of_W (vs := [.slice (some ⟨b, off, none⟩) l.length c, .slice (some ⟨b', off', none⟩) m.length c']) Tryd.func12 rfl Tryd.ntmps12 (Nat.le_of_ble_eq_true rfl) hst.reads ?_
      simp only [argL, Nat.zero_add]
      repeat' (first | ((show Wl _ _ _ _ _ _ _ _ _ _); first | (apply Wl.ev rfl rfl; (focus (first | ((show Ev _ _ _ _ _ _ _ (.move _) _ _); first | exact ev_move rfl) | ((show Ev _ _ _ _ _ _ _ (.assign _) _ _); first | exact ev_assign rfl) | ((show Ev _ _ _ _ _ _ _ (.binOp _ _ _ _ _) _ _); first | exact ev_nei rfl rfl) | ((show Ev _ _ _ _ _ _ _ (.call _) _ _); first | exact ev_len_slice (slT rfl) rfl)))) | apply Wl.nil) | ((show Wq _ _ _ _ _ _ _ _ _ _); first | (apply Wq.ev rfl rfl; (focus (first | ((show Ev _ _ _ _ _ _ _ (.move _) _ _); first | exact ev_move rfl) | ((show Ev _ _ _ _ _ _ _ (.assign _) _ _); first | exact ev_assign rfl) | ((show Ev _ _ _ _ _ _ _ (.binOp _ _ _ _ _) _ _); first | exact ev_nei rfl rfl) | ((show Ev _ _ _ _ _ _ _ (.call _) _ _); first | exact ev_len_slice (slT rfl) rfl))))) | ((show W _ _ _ _ _ _ _ _ _); first | apply W.seq | (refine W.loop (X := Nat) (fun j => [(0, .slice (some ⟨b, off, none⟩) l.length c), (1, .slice (some ⟨b', off', none⟩) m.length c'), (12, .int .i64 (l.length : Nat)), (13, .int .i64 (j : Nat))]) (fun _ => ro H) (fun j => j ≤ l.length ∧ ∀ i, i < j → l.getD i ti0 = m.getD i ti0) (fun j => l.length - j) 0 ⟨Nat.zero_le _, fun i h => absurd h (Nat.not_lt_zero _)⟩ (by repeat (first | exact SubL.nil | refine SubL.cons rfl ?_)) (List.Sublist.refl _) ?_) | apply W.region | apply W.block | apply W.skip | (refine W.cond rfl ?_ ?_ <;> (intro h; try (exfalso; first | contradiction | omega | exact h rfl | exact h ⟨rfl, rfl⟩ | (simp_all; done))))))
      rintro j ⟨hj, heq⟩
      by_cases hlt : j < l.length
      · obtain ⟨A, hA⟩ : ∃ A, l.getD j ti0 = A := ⟨_, rfl⟩
        obtain ⟨B, hB⟩ : ∃ B, m.getD j ti0 = B := ⟨_, rfl⟩
        have ga := hg1 j hlt
        rw [hA] at ga
        have gb := hg2 j (by omega)
        rw [hB] at gb
        by_cases hAB : A = B
        · have hn : ∀ i, i < j + 1 → l.getD i ti0 = m.getD i ti0 := fun i hi => by
            rcases Nat.lt_or_ge i j with h | h
            · exact heq i h
            · rw [show i = j by omega, hA, hB, hAB]
          repeat' (first | ((show Wl _ _ _ _ _ _ _ _ _ _); first | (apply Wl.ev rfl rfl; (focus (first | ((show Ev _ _ _ _ _ _ _ (.move _) _ _); first | exact ev_move rfl) | ((show Ev _ _ _ _ _ _ _ (.load _ _) _ _); first | exact ev_loadAggAt (agT rfl) (szT rfl) rfl hm1 (fun i v h => ga i v h _ (by omega)) rfl | exact ev_loadAggAt (agT rfl) (szT rfl) rfl hm2 (fun i v h => gb i v h _ (by omega)) rfl) | ((show Ev _ _ _ _ _ _ _ (.assign _) _ _); first | exact ev_assign rfl) | ((show Ev _ _ _ _ _ _ _ (.binOp _ _ _ _ _) _ _); first | exact ev_neFlatD (p := A = B) (flatT rfl) rfl rfl rfl (eqL_ti A B) | exact ev_lti rfl rfl | exact ev_add64 rfl rfl (by omega)) | ((show Ev _ _ _ _ _ _ _ (.indexAddr _ _ _) _ _); first | exact ev_indexAddr (slT rfl) (szT rfl) rfl rfl (by omega))))) | apply Wl.nil) | ((show Wq _ _ _ _ _ _ _ _ _ _); first | (apply Wq.ev rfl rfl; (focus (first | ((show Ev _ _ _ _ _ _ _ (.move _) _ _); first | exact ev_move rfl) | ((show Ev _ _ _ _ _ _ _ (.load _ _) _ _); first | exact ev_loadAggAt (agT rfl) (szT rfl) rfl hm1 (fun i v h => ga i v h _ (by omega)) rfl | exact ev_loadAggAt (agT rfl) (szT rfl) rfl hm2 (fun i v h => gb i v h _ (by omega)) rfl) | ((show Ev _ _ _ _ _ _ _ (.assign _) _ _); first | exact ev_assign rfl) | ((show Ev _ _ _ _ _ _ _ (.binOp _ _ _ _ _) _ _); first | exact ev_neFlatD (p := A = B) (flatT rfl) rfl rfl rfl (eqL_ti A B) | exact ev_lti rfl rfl | exact ev_add64 rfl rfl (by omega)) | ((show Ev _ _ _ _ _ _ _ (.indexAddr _ _ _) _ _); first | exact ev_indexAddr (slT rfl) (szT rfl) rfl rfl (by omega))))) | apply Wq.nil) | ((show W _ _ _ _ _ _ _ _ _); first | apply W.seq | (refine W.again (j + 1) ⟨by omega, hn⟩ (by omega) (by repeat (first | exact SubL.nil | refine SubL.cons rfl ?_)) (List.Sublist.refl _)) | (refine W.regionQ mixed (by kernel_rfl) ?_) | apply W.region | apply W.block | apply W.blk | apply W.skip | (refine W.cond rfl ?_ ?_ <;> (intro h; try (exfalso; first | contradiction | omega | exact h rfl | exact h ⟨rfl, rfl⟩ | (simp_all; done))))))
        · have hne : l ≠ m := fun e => hAB (by rw [← hA, ← hB, e])
          repeat' (first | ((show Wl _ _ _ _ _ _ _ _ _ _); first | (apply Wl.ev rfl rfl; (focus (first | ((show Ev _ _ _ _ _ _ _ (.move _) _ _); first | exact ev_move rfl) | ((show Ev _ _ _ _ _ _ _ (.load _ _) _ _); first | exact ev_loadAggAt (agT rfl) (szT rfl) rfl hm1 (fun i v h => ga i v h _ (by omega)) rfl | exact ev_loadAggAt (agT rfl) (szT rfl) rfl hm2 (fun i v h => gb i v h _ (by omega)) rfl) | ((show Ev _ _ _ _ _ _ _ (.assign _) _ _); first | exact ev_assign rfl) | ((show Ev _ _ _ _ _ _ _ (.binOp _ _ _ _ _) _ _); first | exact ev_neFlatD (p := A = B) (flatT rfl) rfl rfl rfl (eqL_ti A B) | exact ev_lti rfl rfl) | ((show Ev _ _ _ _ _ _ _ (.indexAddr _ _ _) _ _); first | exact ev_indexAddr (slT rfl) (szT rfl) rfl rfl (by omega))))) | apply Wl.nil) | ((show Wq _ _ _ _ _ _ _ _ _ _); first | (apply Wq.ev rfl rfl; (focus (first | ((show Ev _ _ _ _ _ _ _ (.move _) _ _); first | exact ev_move rfl) | ((show Ev _ _ _ _ _ _ _ (.load _ _) _ _); first | exact ev_loadAggAt (agT rfl) (szT rfl) rfl hm1 (fun i v h => ga i v h _ (by omega)) rfl | exact ev_loadAggAt (agT rfl) (szT rfl) rfl hm2 (fun i v h => gb i v h _ (by omega)) rfl) | ((show Ev _ _ _ _ _ _ _ (.assign _) _ _); first | exact ev_assign rfl) | ((show Ev _ _ _ _ _ _ _ (.binOp _ _ _ _ _) _ _); first | exact ev_neFlatD (p := A = B) (flatT rfl) rfl rfl rfl (eqL_ti A B) | exact ev_lti rfl rfl) | ((show Ev _ _ _ _ _ _ _ (.indexAddr _ _ _) _ _); first | exact ev_indexAddr (slT rfl) (szT rfl) rfl rfl (by omega))))) | apply Wq.nil) | ((show W _ _ _ _ _ _ _ _ _); first | apply W.seq | (refine W.regionQ mixed (by kernel_rfl) ?_) | apply W.region | apply W.block | apply W.skip | (refine W.cond rfl ?_ ?_ <;> (intro h; try (exfalso; first | contradiction | omega | exact h rfl | exact h ⟨rfl, rfl⟩ | (simp_all; done)))) | (refine W.ret1 rfl rfl ?_; intro w hs)))
          exact ret_eq hs (congrArg Value.bool (decide_eq_false hne).symm)
      · have he : l = m := List.ext_getElem hlen fun i h1 h2 => by
          have := heq i (by omega)
          simpa [List.getD, h1, h2] using this
        repeat' (first | ((show Wl _ _ _ _ _ _ _ _ _ _); first | (apply Wl.ev rfl rfl; (focus (first | ((show Ev _ _ _ _ _ _ _ (.assign _) _ _); first | exact ev_assign rfl) | ((show Ev _ _ _ _ _ _ _ (.binOp _ _ _ _ _) _ _); first | exact ev_lti rfl rfl)))) | apply Wl.nil) | ((show Wq _ _ _ _ _ _ _ _ _ _); first | (apply Wq.ev rfl rfl; (focus (first | ((show Ev _ _ _ _ _ _ _ (.assign _) _ _); first | exact ev_assign rfl) | ((show Ev _ _ _ _ _ _ _ (.binOp _ _ _ _ _) _ _); first | exact ev_lti rfl rfl))))) | ((show W _ _ _ _ _ _ _ _ _); first | apply W.seq | apply W.region | (refine W.exit rfl ?_) | (refine W.cond rfl ?_ ?_ <;> (intro h; try (exfalso; first | contradiction | omega | exact h rfl | exact h ⟨rfl, rfl⟩ | (simp_all; done)))) | (refine W.ret1 rfl rfl ?_; intro w hs)))
        exact ret_eq hs (congrArg Value.bool (decide_eq_true he).symm)
  · have hne : l ≠ m := fun e => hlen (by rw [e])
    obtain ⟨p, c, rfl⟩ := hv.len
    obtain ⟨p', c', rfl⟩ := hu.len
    refine give_of_W (vs := [.slice p l.length c, .slice p' m.length c']) Tryd.func12 rfl Tryd.ntmps12 (Nat.le_of_ble_eq_true rfl) (St.nil w _) ?_
    simp only [argL, Nat.zero_add]
    repeat' (first | ((show Wl _ _ _ _ _ _ _ _ _ _); first | (apply Wl.ev rfl rfl; (focus (first | ((show Ev _ _ _ _ _ _ _ (.move _) _ _); first | exact ev_move rfl) | ((show Ev _ _ _ _ _ _ _ (.assign _) _ _); first | exact ev_assign rfl) | ((show Ev _ _ _ _ _ _ _ (.binOp _ _ _ _ _) _ _); first | exact ev_nei rfl rfl) | ((show Ev _ _ _ _ _ _ _ (.call _) _ _); first | exact ev_len_slice (slT rfl) rfl)))) | apply Wl.nil) | ((show Wq _ _ _ _ _ _ _ _ _ _); first | (apply Wq.ev rfl rfl; (focus (first | ((show Ev _ _ _ _ _ _ _ (.move _) _ _); first | exact ev_move rfl) | ((show Ev _ _ _ _ _ _ _ (.assign _) _ _); first | exact ev_assign rfl) | ((show Ev _ _ _ _ _ _ _ (.binOp _ _ _ _ _) _ _); first | exact ev_nei rfl rfl) | ((show Ev _ _ _ _ _ _ _ (.call _) _ _); first | exact ev_len_slice (slT rfl) rfl))))) | ((show W _ _ _ _ _ _ _ _ _); first | apply W.seq | apply W.region | (refine W.cond rfl ?_ ?_ <;> (intro h; try (exfalso; first | contradiction | omega | exact h rfl | exact h ⟨rfl, rfl⟩ | (simp_all; done)))) | (refine W.ret1 rfl rfl ?_; intro w hs)))
    exact ret_eq hs (congrArg Value.bool (decide_eq_false hne).symm)
theorem map_tiOf {l m : List Tk} : l.map tiOf = m.map tiOf ↔ l = m := by
  refine ⟨fun h => ?_, fun h => by rw [h]⟩
  have hi : ∀ a b : Tk, tiOf a = tiOf b → a = b := fun a b e => by
    obtain ⟨k, t, x, p, n⟩ := a
    obtain ⟨k', t', x', p', n'⟩ := b
    simp only [tiOf, Ti.mk.injEq] at e
    obtain ⟨rfl, rfl, rfl, h1, h2⟩ := e
    obtain rfl : p = p' := by omega
    obtain rfl : n = n' := by omega
    rfl
  induction l generalizing m with
  | nil => cases m with
    | nil => rfl
    | cons b m => cases h
  | cons a l ih => cases m with
    | nil => cases h
    | cons b m =>
      simp only [List.map_cons, List.cons.injEq] at h
      rw [hi a b h.1, ih h.2]
theorem psameK_ok {M : List Nat} {w0 w : World} {H : List Ent} {v u : Value} {l m : List Tk} (hst : St M w0 w H) (hv : RdE H v l) (hu : RdE H u m) (hl : l.length ≤ 4611686018427387904) :
    Calls Tryd.prog 12 #[v, u] w (Give (.bool (decide (l = m))) w) := by
  have := psame_ok hst hv.toI hu.toI (by rw [List.length_map]; exact hl)
  rwa [show decide (l.map tiOf = m.map tiOf) = decide (l = m) from decide_eq_decide.2 map_tiOf] at this
abbrev wkT : List UInt8 := [35, 100, 101, 102, 105, 110, 101, 32, 78, 32, 51, 10, 78, 32, 78]
def wkS : List Tk := [⟨2, [51], 196608, 12, 1⟩, ⟨2, [51], 196608, 14, 1⟩]
theorem wk_lex : lexS wkT = ([⟨4, [35], 0, 0, 0⟩, ⟨1, [100, 101, 102, 105, 110, 101], 0, 1, 0⟩, ⟨1, [78], 0, 8, 0⟩, ⟨2, [51], 196608, 10, 0⟩, ⟨1, [78], 0, 12, 1⟩, ⟨1, [78], 0, 14, 1⟩], 0, 0) := by kernel_rfl
theorem wk_pre : preS wkT = (wkS, 0, 0) := by
  rw [preS_of wk_lex]
  kernel_rfl
theorem wakes_ok (w : World) (hm : Mx w) (hp : Pows w) : Calls Tryd.prog 9 #[] w (Give (.bool true) w) := by
  refine give_of_W (vs := []) Tryd.func9 rfl Tryd.ntmps9 (Nat.le_of_ble_eq_true rfl) (St.nil w _) ?_
  simp only [argL]
  have lx : ∀ w, Mx w → Pows w → Calls Tryd.prog 10 #[st wkT] w (Gives (fun o : Ow => .tuple #[ownV 2 o, spotV 0 0]) (fun o => ownOk 2 5 (tksC wkS) o) w (fun _ => []) (owN 35)) := fun w h h2 => by
    have := prun_ok wkT (by simp) w h h2
    rw [wk_pre] at this
    exact this
  repeat' (first | ((show Wl _ _ _ _ _ _ _ _ _ _); first | (apply Wl.ev rfl rfl; (focus (first | ((show Ev _ _ _ _ _ _ _ (.move _) _ _); first | exact ev_move rfl) | ((show Ev _ _ _ _ _ _ _ (.load _ _) _ _); first | exact ev_loadAt (agT rfl) rfl (by repeat (first | exact List.Mem.head _ | apply List.Mem.tail)) (hget _ _ rfl) | exact ev_loadWhole (agT rfl) (szT rfl) rfl (by repeat (first | exact List.Mem.head _ | apply List.Mem.tail)) rfl) | ((show Ev _ _ _ _ _ _ _ (.fieldAddr _ _ _) _ _); first | exact ev_fieldAddr0 (fldT rfl) rfl | exact ev_fieldAddr (fldT rfl) rfl) | ((show Ev _ _ _ _ _ _ _ (.assign _) _ _); first | exact ev_assign rfl) | ((show Ev _ _ _ _ _ _ _ (.pick _ _ _) _ _); first | exact ev_pickT rfl rfl) | ((show Ev _ _ _ _ _ _ _ (.binOp _ _ _ _ _) _ _); first | exact ev_eqi rfl rfl | exact ev_eqsT rfl rfl (by decide) | exact ev_eqFlatD (flatT rfl) rfl rfl rfl eqL_ii) | ((show Ev _ _ _ _ _ _ _ (.extract _ _) _ _); first | exact ev_extract rfl rfl) | ((show Ev _ _ _ _ _ _ _ (.build _ _) _ _); first | (apply ev_build (bldT rfl) rfl; simp [fillP]; rfl)) | ((show Ev _ _ _ _ _ _ _ (.call _) _ _); first | exact ev_len_slice (slT rfl) rfl) | ((show Ev _ _ _ _ _ _ _ (.indexAddr _ _ _) _ _); first | exact ev_indexAddr (slT rfl) (szT rfl) rfl rfl (by omega))))) | ((show Wl _ _ _ _ _ _ _ (⟨_, .call ⟨.value (.func 10), _, _⟩, _, _, _, _⟩ :: _) _ _); refine wl_callX rfl rfl has10 rfl (fun w hs => lx w (hm.st hs (by simp)) (hp.st hs) ) ?_; intro o ho; obtain ⟨lb, cap, cur, rfl, hcap, hsz, hget⟩ := own_some ho (by decide); simp only [ents_owN, ownH, List.singleton_append, ownV]; try simp only [ents, List.map_cons, List.map_nil, List.cons_append, List.nil_append]) | apply Wl.nil | (refine wl_alloc rfl rfl (zeroT rfl) ?_; intro b) | (refine wl_storeWhole rfl rfl rfl (szT rfl) rfl (by repeat (first | exact Upd.here | apply Upd.there)) (by rfl) ?_)) | ((show Wq _ _ _ _ _ _ _ _ _ _); first | (apply Wq.ev rfl rfl; (focus (first | ((show Ev _ _ _ _ _ _ _ (.move _) _ _); first | exact ev_move rfl) | ((show Ev _ _ _ _ _ _ _ (.load _ _) _ _); first | exact ev_loadAt (agT rfl) rfl (by repeat (first | exact List.Mem.head _ | apply List.Mem.tail)) (hget _ _ rfl) | exact ev_loadWhole (agT rfl) (szT rfl) rfl (by repeat (first | exact List.Mem.head _ | apply List.Mem.tail)) rfl) | ((show Ev _ _ _ _ _ _ _ (.fieldAddr _ _ _) _ _); first | exact ev_fieldAddr0 (fldT rfl) rfl | exact ev_fieldAddr (fldT rfl) rfl) | ((show Ev _ _ _ _ _ _ _ (.assign _) _ _); first | exact ev_assign rfl) | ((show Ev _ _ _ _ _ _ _ (.pick _ _ _) _ _); first | exact ev_pickT rfl rfl) | ((show Ev _ _ _ _ _ _ _ (.binOp _ _ _ _ _) _ _); first | exact ev_eqi rfl rfl | exact ev_eqsT rfl rfl (by decide) | exact ev_eqFlatD (flatT rfl) rfl rfl rfl eqL_ii) | ((show Ev _ _ _ _ _ _ _ (.extract _ _) _ _); first | exact ev_extract rfl rfl) | ((show Ev _ _ _ _ _ _ _ (.build _ _) _ _); first | (apply ev_build (bldT rfl) rfl; simp [fillP]; rfl)) | ((show Ev _ _ _ _ _ _ _ (.call _) _ _); first | exact ev_len_slice (slT rfl) rfl) | ((show Ev _ _ _ _ _ _ _ (.indexAddr _ _ _) _ _); first | exact ev_indexAddr (slT rfl) (szT rfl) rfl rfl (by omega)))))) | ((show W _ _ _ _ _ _ _ _ _); first | apply W.seq | apply W.region | (refine W.ret1 rfl rfl ?_; intro w hs)))
  all_goals exact ret_eq hs rfl
end Go.Proofs.YthhfandandfeeaaDoor
