/- Walks: a tree's nodes in order; the first that lies too deep. No condition. -/
import Derived.Test.YtbinaeemcidicaaGreatDoorZQG
set_option maxRecDepth 100000
set_option maxHeartbeats 16000000
namespace Go.PB
open Go.RowKit
section
variable {P : Program} {fn : Func} {R : Ending → World → Prop} {M : List Nat} {w0 : World} {n : Nat} {L : List (Nat × Value)} {H : List Ent} {k : List Kt} {t t' : TypeId} {p q : Tmp} {b b' : Nat} {l l' : List Value} {e e' : TypeId} {wr wr' : Bool}
theorem W.retcc (hr : fn.results = #[.cell p t, .cell q t']) (hx : look L p = some (.pointer (some ⟨b, 0, none⟩))) (hu : Ag P t true) (hm : (⟨b, wr, row l e⟩ : Ent) ∈ H) (hs : Sz P t l.length)
  (hx' : look L q = some (.pointer (some ⟨b', 0, none⟩))) (hu' : Ag P t' true) (hm' : (⟨b', wr', row l' e'⟩ : Ent) ∈ H) (hs' : Sz P t' l'.length)
  (h : ∀ w, St M w0 w H → R (.returned (.tuple #[.agg l.toArray, .agg l'.toArray])) w) : W P (bodyPost P fn R) M w0 n [] (.inl .ret :: k) L H :=
 W.ret fun a w hf hst => bodyPost_ret (v := .tuple #[.agg l.toArray, .agg l'.toArray]) (by simp [results, hr, hf.has p _ hx, hf.has q _ hx', asAddr, run_loadWhole hu hs (hst.get hm), run_loadWhole hu' hs' (hst.get hm')]) hf.defers (h w hst)
end
end Go.PB
namespace Go.Proofs.YtbinaeemcidicaaGreatDoor
open Go.PB Go.RowKit
attribute [local irreducible] Go.Calls
theorem ownV_sl (n : Nat) (o : Ow) : ∃ p m c, ownV n o = .slice p m c := by
 cases o with
 | none => exact ⟨_, _, _, rfl⟩
 | some o => exact ⟨_, _, _, rfl⟩
theorem put_mk {b : Nat} {kd : Int} {ty tx : List UInt8} {nm pl : Int} {ow : Ow} {ts : List Tn} (ih : ∀ u ∈ ts, PutC u) : PutC (.mk b kd ty tx nm pl ow ts) := by
 intro M w0 w A N o sp d tb sb pb hst hm hok hown hb hd
 cases sp with
 | some x =>
  refine (put_some (.mk b kd ty tx nm pl ow ts) hst (List.Mem.tail _ (List.Mem.head _))).mono fun e w' hR => ?_
  obtain ⟨_, _, he, hs⟩ := hR
  refine ⟨([], o), ⟨by rw [putP_some]; rfl, by rw [List.append_nil]; exact hown, fun _ h => by cases h⟩, he, ?_⟩
  dsimp only
  rw [List.append_nil, putP_some]
  exact hs
 | none =>
  by_cases h : 32 < d
  ·have hmA : (⟨b, true, ndO kd ty tx nm pl (ownV ts.length ow)⟩ : Ent) ∈ flH tb sb pb N o none A :=
    List.Mem.tail _ (List.Mem.tail _ (List.Mem.tail _ (List.mem_append_left _ (List.mem_append_left _ (hm _ (by rw [tnH]; exact List.Mem.head _))))))
   obtain ⟨kp, kn, kc, hv⟩ := ownV_sl ts.length ow
   rw [hv] at hmA
   have hp : putP (tnP (.mk b kd ty tx nm pl ow ts)) d N.length none = ([], some pl) := by rw [tnP]; exact putP_deep h
   refine (put_deep hst h hmA (Upd.there Upd.here)).mono fun e w' hR => ?_
   obtain ⟨_, _, he, hs⟩ := hR
   refine ⟨([], o), ⟨by rw [hp]; rfl, by rw [List.append_nil]; exact hown, fun _ h => by cases h⟩, he, ?_⟩
   dsimp only
   rw [List.append_nil, hp]
   exact hs
  ·exact put_go ih hst hm hok hown hb h
mutual
theorem put_ok : ∀ t : Tn, PutC t
 | .mk _ _ _ _ _ _ _ ts => put_mk (puts_ok ts)
theorem puts_ok : ∀ (ts : List Tn), ∀ u ∈ ts, PutC u
 | [], _, h => by cases h
 | t :: ts, u, h => (List.mem_cons.1 h).elim (fun e => e ▸ put_ok t) (fun h => puts_ok ts u h)
end
theorem put_top {t : Tn} {r : List Nd × Option Int} (hr : putP (tnP t) 0 0 none = r) {M : List Nat} {w0 w : World} {H A : List Ent} {tb sb pb : Nat} (hst : St M w0 w H) (hc : ∀ e, (flH tb sb pb [] none none A).count e ≤ H.count e) (hm : ∀ e ∈ tnH t, e ∈ A) (hok : tnOk t) (hb : cntP (tnP t) ≤ 1500000) :
  Calls Tryz.prog 54 #[ptr t.b, .int .i64 0, ptr sb, ptr tb, ptr pb] w (GivesS (fun _ : List Nk × Ow => .tuple #[]) (fun x => x.1.map Prod.fst = r.1 ∧ ownOk x.1.length 6 (ndsC x.1) x.2 ∧ ndKok x.1) M w0 (fun x => flH tb sb pb x.1 x.2 r.2 A)) := by
 subst hr
 exact put_call (put_ok t) (d := 0) rfl hst hc hm hok ⟨rfl, rfl⟩ (by simpa using hb) Zf7
def FlatR (r : List Nd × Option Int) (M : List Nat) (w0 : World) (A : List Ent) : Ending → World → Prop := match r.2 with
 | none => GivesS (fun x : List Nk × Ow => .tuple #[.agg [ownV x.1.length x.2].toArray, .agg [.int .i64 0, .int .i64 0].toArray]) (fun x => x.1.map Prod.fst = r.1 ∧ ownOk x.1.length 6 (ndsC x.1) x.2 ∧ ndKok x.1) M w0 (fun x => (A ++ ndKH x.1) ++ ownH 47 x.2)
 | some y => GivesS (fun _ : Unit => .tuple #[.agg [.slice none 0 0].toArray, .agg [.int .i64 3, .int .i64 y].toArray]) (fun _ => True) M w0 (fun _ => A)
theorem flat_ok {t : Tn} {M : List Nat} {w0 w : World} {A : List Ent} (hst : St M w0 w A) (hm : ∀ e ∈ tnH t, e ∈ A) (hok : tnOk t) (hb : cntP (tnP t) ≤ 1500000) : Calls Tryz.prog 29 #[ptr t.b] w (FlatR (putP (tnP t) 0 0 none) M w0 A) := by
 obtain ⟨r, hr⟩ : ∃ r, putP (tnP t) 0 0 none = r := ⟨_, rfl⟩
 rw [hr]
 refine calls_of_W (vs := [ptr t.b]) Tryz.func29 rfl Tryz.ntmps29 (Nat.le_of_ble_eq_true rfl) hst.fromHere ?_
 simp only [argL]
 obtain ⟨ns, sp⟩ := r
 cases sp with
 | none =>
  repeat' (first | (apply gL; first | (apply Wl.ev rfl rfl; exact Zgi) | (refine lA 2 ?_; refine wl_alloc rfl rfl (zeroT rfl) ?_; intro b2) | (refine lA 3 ?_; refine wl_alloc rfl rfl (zeroT rfl) ?_; intro b3) | (refine lA 4 ?_; refine wl_alloc rfl rfl (zeroT rfl) ?_; intro b4) | (refine lA 5 ?_; refine wl_alloc rfl rfl (zeroT rfl) ?_; intro b5) | (refine lA 6 ?_; refine wl_alloc rfl rfl zeroF ?_; intro b6) | (refine wl_store1 rfl rfl rfl rfl szF Zf Zbe ?_; try simp only [List.set]) | (refine Zgm ?_) | ((show Wl _ _ _ _ _ _ _ (⟨some 11, .call ⟨.value _, _, _⟩, _, _, _, _⟩ :: _) _ (⟨b6, true, row [fnV 54 [] [ptr b5, ptr b4, ptr b6]] 101⟩ :: _)); refine wl_callG rfl rfl has54 rfl rfl Zc6 ?_; rintro ⟨N2, o3⟩ ⟨h2, ho3, hN2⟩) | apply Wl.nil) | (apply gQ; first | (apply Wq.ev rfl rfl; exact Zgi)) | (apply lW; first | apply W.seq | ((show W _ _ _ _ _ _ (.inl .ret :: _) _ _); refine W.retcc rfl rfl (agT rfl) Zd (szT rfl) rfl (agT rfl) Zd (szT rfl) ?_; intro w hs) | ((show W _ _ _ _ _ _ (.inl (.region 8 _ true) :: _) _ _); refine W.regionM [2, 3] [] [(⟨b4, true, row [ownV N2.length o3] 24⟩ : Ent), (⟨b5, true, row (spC none) 38⟩ : Ent)] mixed ?_) | apply W.region | apply W.skip | (refine Zbg ?_)) | ((show Wm _ _ _ _ _ _ _ _ _ _ _ _ _ _ _ _); first | ((refine Zgg ?_)) | (refine Zgq ?_) | (refine Zgs ?_) | (refine Zhs ?_) | (refine Wm.take1 Zj rfl Zj Zk Zf6 rfl rfl Zgi Zb Zb ?_) | (refine Wm.take0 Zj rfl Zj Zk Zk Zf6 Zf6 rfl rfl Zgi Zb Zb ?_) | ((fail_if_success (refine Zbn ?_)); (refine Zgc ?_ ?_ <;> (intro h; try exact Za))) | ((fail_if_success (refine Zbn ?_)); (refine Zga ?_ ?_ <;> (intro h; try exact Za))) | apply Wm.next) | apply AllO.nil | apply AllO.cons | (refine Or.inl Zk) | ((show _ ∨ Wl _ _ _ _ _ _ _ _ _ _); apply Or.inr) | (refine Zgt ?_))
  all_goals first | exact GivesS.ofC hst hs (N2, o3) ⟨h2, ho3, hN2⟩ rfl Zdr | contradiction | exact Zy
 | some y =>
  repeat' (first | (apply gL; first | (apply Wl.ev rfl rfl; exact Zgi) | (refine lA 2 ?_; refine wl_alloc rfl rfl (zeroT rfl) ?_; intro b2) | (refine lA 3 ?_; refine wl_alloc rfl rfl (zeroT rfl) ?_; intro b3) | (refine lA 4 ?_; refine wl_alloc rfl rfl (zeroT rfl) ?_; intro b4) | (refine lA 5 ?_; refine wl_alloc rfl rfl (zeroT rfl) ?_; intro b5) | (refine lA 6 ?_; refine wl_alloc rfl rfl zeroF ?_; intro b6) | (refine wl_store1 rfl rfl rfl rfl szF Zf Zbe ?_; try simp only [List.set]) | (refine Zgm ?_) | ((show Wl _ _ _ _ _ _ _ (⟨some 11, .call ⟨.value _, _, _⟩, _, _, _, _⟩ :: _) _ (⟨b6, true, row [fnV 54 [] [ptr b5, ptr b4, ptr b6]] 101⟩ :: _)); refine wl_callG rfl rfl has54 rfl rfl Zc6 ?_; rintro ⟨N2, o3⟩ ⟨h2, ho3, hN2⟩) | apply Wl.nil) | (apply gQ; first | (apply Wq.ev rfl rfl; exact Zgi)) | (apply lW; first | apply W.seq | ((show W _ _ _ _ _ _ (.inl .ret :: _) _ _); refine W.retcc rfl rfl (agT rfl) Zd (szT rfl) rfl (agT rfl) Zd (szT rfl) ?_; intro w hs) | ((show W _ _ _ _ _ _ (.inl (.region 7 _ true) :: _) _ _); refine W.regionM [2, 3] [] [(⟨b5, true, row (spC (some y)) 38⟩ : Ent)] mixed ?_) | apply W.region | (refine Zbk ?_)) | ((show Wm _ _ _ _ _ _ _ _ _ _ _ _ _ _ _ _); first | ((refine Zgg ?_)) | (refine Zgq ?_) | (refine Zgs ?_) | (refine Zhs ?_) | (refine Wm.take1 Zj rfl Zj Zk Zf6 rfl rfl Zgi Zb Zb ?_) | (refine Wm.take0 Zj rfl Zj Zk Zk Zf6 Zf6 rfl rfl Zgi Zb Zb ?_) | ((fail_if_success (refine Zbn ?_)); (refine Zgc ?_ ?_ <;> (intro h; try exact Za))) | ((fail_if_success (refine Zbn ?_)); (refine Zga ?_ ?_ <;> (intro h; try exact Za))) | apply Wm.next) | apply AllO.nil | apply AllO.cons | (refine Or.inl Zk) | ((show _ ∨ Wl _ _ _ _ _ _ _ _ _ _); apply Or.inr) | (refine Zgt ?_))
  all_goals first | exact GivesS.ofC hst hs () trivial rfl Zdr | contradiction | exact Zy
end Go.Proofs.YtbinaeemcidicaaGreatDoor
