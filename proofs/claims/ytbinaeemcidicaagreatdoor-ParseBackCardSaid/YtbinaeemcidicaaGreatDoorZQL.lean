/- Walks: the program's Parse. No condition but the cell that the library's search reads. -/
import Derived.Test.YtbinaeemcidicaaGreatDoorZQJ
import Derived.Test.YtbinaeemcidicaaGreatDoorZQH
import Derived.Test.YtbinaeemcidicaaGreatDoorZQI
import Derived.Test.YtbinaeemcidicaaGreatDoorZCn
set_option maxRecDepth 100000
set_option maxHeartbeats 16000000
namespace Go.PB
open Go.RowKit
section
variable {P : Program} {fn : Func} {R : Ending → World → Prop} {M : List Nat} {w0 : World} {n : Nat} {L : List (Nat × Value)} {H : List Ent} {k : List Kt} {t t' : TypeId} {p q : Tmp} {b b' : Nat} {l l' : List Value} {e e' : TypeId} {wr wr' : Bool}
theorem res_cc {a : Act} {D : List Deferred} {w : World} (hf : Fz n L D a) (hst : St M w0 w H) (hr : fn.results = #[.cell p t, .cell q t']) (hx : look L p = some (.pointer (some ⟨b, 0, none⟩))) (hu : Ag P t true) (hm : (⟨b, wr, row l e⟩ : Ent) ∈ H) (hs : Sz P t l.length)
  (hx' : look L q = some (.pointer (some ⟨b', 0, none⟩))) (hu' : Ag P t' true) (hm' : (⟨b', wr', row l' e'⟩ : Ent) ∈ H) (hs' : Sz P t' l'.length) : (results fn a.tmps).run P w = .ok (.tuple #[.agg l.toArray, .agg l'.toArray]) w := by
 simp [results, hr, hf.has p _ hx, hf.has q _ hx', asAddr, run_loadWhole hu hs (hst.get hm), run_loadWhole hu' hs' (hst.get hm')]
theorem W.retccD {f : FuncId} {cs : List Value} (hh : Has P f) (hi : ∀ w, CallsD P f cs.toArray .returning w fun e u' w' => e = .returned (.tuple #[]) ∧ u' = .returning ∧ w' = w)
  (hr : fn.results = #[.cell p t, .cell q t']) (hx : look L p = some (.pointer (some ⟨b, 0, none⟩))) (hu : Ag P t true) (hm : (⟨b, wr, row l e⟩ : Ent) ∈ H) (hs : Sz P t l.length)
  (hx' : look L q = some (.pointer (some ⟨b', 0, none⟩))) (hu' : Ag P t' true) (hm' : (⟨b', wr', row l' e'⟩ : Ent) ∈ H) (hs' : Sz P t' l'.length)
  (h : ∀ w, St M w0 w H → R (.returned (.tuple #[.agg l.toArray, .agg l'.toArray])) w) : W P (bodyPostD P fn R) M w0 n [{ target := .fn (.func f) cs.toArray, args := #[] }] (.inl .ret :: k) L H :=
 W.ret fun a w hf hst => by
  show Leaves P fn a.tmps R a.defers .returning w
  rw [hf.defers]
  refine leaves_one (fun h => by cases h) hh ((hi w).mono fun e u' w' hR => ?_)
  obtain ⟨rfl, rfl, rfl⟩ := hR
  exact ⟨⟨_, rfl⟩, rfl, _, res_cc hf hst hr hx hu hm hs hx' hu' hm' hs', h _ hst⟩
theorem panic_cc {f : FuncId} {cs : List Value} {c : List PanicEntry} {H' : List Ent} {a : Act} {w : World} (hh : Has P f) (hi : CallsD P f cs.toArray (.panicking c) w fun e u' w' => (∃ v, e = .returned v) ∧ settle u' = .returning ∧ St M w0 w' H')
  (hf : Fz n L [{ target := .fn (.func f) cs.toArray, args := #[] }] a) (hr : fn.results = #[.cell p t, .cell q t']) (hx : look L p = some (.pointer (some ⟨b, 0, none⟩))) (hu : Ag P t true) (hm : (⟨b, wr, row l e⟩ : Ent) ∈ H') (hs : Sz P t l.length)
  (hx' : look L q = some (.pointer (some ⟨b', 0, none⟩))) (hu' : Ag P t' true) (hm' : (⟨b', wr', row l' e'⟩ : Ent) ∈ H') (hs' : Sz P t' l'.length)
  (h : ∀ w, St M w0 w H' → R (.returned (.tuple #[.agg l.toArray, .agg l'.toArray])) w) : kpost P (bodyPostD P fn R) k (.panic c) a w := by
 refine kpost_panic ?_ k
 show Leaves P fn a.tmps R a.defers (.panicking c) w
 rw [hf.defers]
 refine leaves_one (fun h => by cases h) hh (hi.mono fun e u' w' hR => ?_)
 obtain ⟨hv, hset, hst⟩ := hR
 exact ⟨hv, hset, _, res_cc hf hst hr hx hu hm hs hx' hu' hm' hs', h _ hst⟩
end
end Go.PB
namespace Go.Proofs.YtbinaeemcidicaaGreatDoor
open Go.PB Go.RowKit
attribute [local irreducible] Go.Calls
def MxE (A : List Ent) : Prop := ∃ arr et fr wr m, (⟨0, wr, .cells arr et fr⟩ : Ent) ∈ A ∧ arr[0]? = some (.int .i64 m)
theorem MxE.mx {A H : List Ent} {M : List Nat} {w0 w : World} (h : MxE A) (hs : St M w0 w H) (hm : ∀ e ∈ A, e ∈ H) : Mx w := by
 obtain ⟨arr, et, fr, wr, m, h1, h2⟩ := h
 exact ⟨m, (cell_cells (hs.get (hm _ h1)) 0).trans h2⟩
def ParR (L : List Ti) (o : Option (List Pt)) (l' : List Ti) (M : List Nat) (w0 : World) (A : List Ent) : Ending → World → Prop := match o with
 | some ps => FlatR (putP (.mk 1 [] [] 0 0 ps) 0 0 none) M w0 A
 | none => GivesS (fun _ : Unit => .tuple #[.agg [.slice none 0 0].toArray, .agg [.int .i64 220, .int .i64 (endP L (L.length - l'.length))].toArray]) (fun _ => True) M w0 (fun _ => A)
theorem tok_fresh {M : List Nat} {w0 w : World} {H A : List Ent} {r a : Nat} {lv : Value} {L : List Ti} (hs : St M w0 w H) (hc : ∀ e, List.count e (⟨r, true, rdP lv a⟩ :: A) ≤ List.count e H) (hv : RdX A lv L.length (tisC L)) (hlim : L.length ≤ 1000000)
  (hx : ∀ t ∈ L, -2147483648 < t.x ∧ t.x ≤ 2147483647) : TokE A r lv L := by
 refine ⟨hv, fun p hp e => ?_, hlim, hx⟩
 have h := (hs.subc hc).apart
 rw [List.pairwise_cons] at h
 have := h.1 p hp
 simp [e] at this
abbrev parH (b5 r b3 b2 b1 : Nat) (lv : Value) (a : Nat) (A : List Ent) : List Ent := ⟨b5, true, row [ptr r] 73⟩ :: ⟨r, true, rdP lv a⟩ :: ⟨b3, true, row [.int .i64 0, .int .i64 0] 38⟩ :: ⟨b2, true, row [.slice none 0 0] 24⟩ :: ⟨b1, true, row [lv] 36⟩ :: A
section
variable {f b5 r b3 b2 b1 : Nat} {M : List Nat} {w0 w : World} {A : List Ent} {lv : Value} {L l' : List Ti}
theorem shad_call (hs : St M w0 w (parH b5 r b3 b2 b1 lv 0 A)) (hv : RdX A lv L.length (tisC L)) (hlim : L.length ≤ 1000000) (hx : ∀ t ∈ L, -2147483648 < t.x ∧ t.x ≤ 2147483647) {o : Option (List Pt)} (e : pF f (.shad []) L = some (o, l')) :
  Calls Tryz.prog 30 #[ptr r] w (NodeR (o.map fun ps => [.mk 1 [] [] 0 0 ps]) M w0 fun T => ⟨b5, true, row [ptr r] 73⟩ :: ⟨r, true, rdP lv (L.length - l'.length)⟩ :: ((⟨b3, true, row [.int .i64 0, .int .i64 0] 38⟩ :: ⟨b2, true, row [.slice none 0 0] 24⟩ :: ⟨b1, true, row [lv] 36⟩ :: A) ++ T)) :=
 shader_ok hs (UpdT.there UpdT.here) (tok_fresh (a := 0) hs (by intro e; simp only [cnt_cons]; omega) hv hlim hx) (fun p hp => List.Mem.tail _ (List.Mem.tail _ (List.Mem.tail _ (List.Mem.tail _ (List.Mem.tail _ hp))))) ⟨Nat.zero_le _, rfl⟩ e
theorem shad_some {ps : List Pt} (e : pF f (.shad []) L = some (some ps, l')) (hs : St M w0 w (parH b5 r b3 b2 b1 lv 0 A)) (hv : RdX A lv L.length (tisC L)) (hlim : L.length ≤ 1000000) (hx : ∀ t ∈ L, -2147483648 < t.x ∧ t.x ≤ 2147483647) :
  Calls Tryz.prog 30 #[ptr r] w (GivesS (fun t : Tn => ptr t.b) (fun t => tnOk t ∧ tnP t = .mk 1 [] [] 0 0 ps) M w0 fun t => parH b5 r b3 b2 b1 lv (L.length - l'.length) (A ++ tnH t)) := shad_call hs hv hlim hx e
theorem shad_none (e : pF f (.shad []) L = some (none, l')) (hs : St M w0 w (parH b5 r b3 b2 b1 lv 0 A)) (hv : RdX A lv L.length (tisC L)) (hlim : L.length ≤ 1000000) (hx : ∀ t ∈ L, -2147483648 < t.x ∧ t.x ≤ 2147483647) :
  Calls Tryz.prog 30 #[ptr r] w (BadS wrongC M w0 (parH b5 r b3 b2 b1 lv (L.length - l'.length) A)) := by
 have h := shad_call hs hv hlim hx e
 refine h.mono fun e w' hR => ?_
 obtain ⟨rfl, hst⟩ := hR
 refine ⟨rfl, ?_⟩
 dsimp only at hst
 rw [List.append_nil] at hst
 exact hst
theorem flat_some {t : Tn} {ps : List Pt} {ns : List Nd} {a : Nat} (htp : tnP t = .mk 1 [] [] 0 0 ps) (hp : putP (.mk 1 [] [] 0 0 ps) 0 0 none = (ns, none)) (hs : St M w0 w (parH b5 r b3 b2 b1 lv a (A ++ tnH t))) (hok : tnOk t) (hb : cntL ps + 1 ≤ 1500000) :
  Calls Tryz.prog 29 #[ptr t.b] w (GivesS (fun x : List Nk × Ow => .tuple #[.agg [ownV x.1.length x.2].toArray, .agg [.int .i64 0, .int .i64 0].toArray]) (fun x => x.1.map Prod.fst = ns ∧ ownOk x.1.length 6 (ndsC x.1) x.2 ∧ ndKok x.1) M w0 fun x => parH b5 r b3 b2 b1 lv a (((A ++ tnH t) ++ ndKH x.1) ++ ownH 47 x.2)) := by
 have h := flat_ok hs (t := t) (fun e he => List.Mem.tail _ (List.Mem.tail _ (List.Mem.tail _ (List.Mem.tail _ (List.Mem.tail _ (List.mem_append_right _ he)))))) hok (by rw [htp, cntP]; exact hb)
 rw [htp, hp] at h
 exact h
theorem flat_far {t : Tn} {ps : List Pt} {ns : List Nd} {y : Int} {a : Nat} (htp : tnP t = .mk 1 [] [] 0 0 ps) (hp : putP (.mk 1 [] [] 0 0 ps) 0 0 none = (ns, some y)) (hs : St M w0 w (parH b5 r b3 b2 b1 lv a (A ++ tnH t))) (hok : tnOk t) (hb : cntL ps + 1 ≤ 1500000) :
  Calls Tryz.prog 29 #[ptr t.b] w (GivesS (fun _ : Unit => .tuple #[.agg [.slice none 0 0].toArray, .agg [.int .i64 3, .int .i64 y].toArray]) (fun _ => True) M w0 fun _ => parH b5 r b3 b2 b1 lv a (A ++ tnH t)) := by
 have h := flat_ok hs (t := t) (fun e he => List.Mem.tail _ (List.Mem.tail _ (List.Mem.tail _ (List.Mem.tail _ (List.Mem.tail _ (List.mem_append_right _ he)))))) hok (by rw [htp, cntP]; exact hb)
 rw [htp, hp] at h
 exact h
end
theorem parseT_ok {f : Nat} {M : List Nat} {w0 w : World} {A : List Ent} {lv : Value} {L l' : List Ti} {o : Option (List Pt)} (hst : St M w0 w A) (hx : MxE A) (hv : RdX A lv L.length (tisC L)) (hr : rightL L = true) (hb : L.any belowT = false)
  (hxs : ∀ t ∈ L, -2147483648 < t.x ∧ t.x ≤ 2147483647) (hlen : ∀ t ∈ L, t.t.length ≤ 1000000) (e : pF f (.shad []) L = some (o, l')) : Calls Tryz.prog 15 #[lv] w (ParR L o l' M w0 A) := by
 have hlim : L.length ≤ 1000000 := by
  unfold rightL at hr
  rw [Bool.and_eq_true, decide_eq_true_iff] at hr
  omega
 obtain ⟨q, c, rfl⟩ := hv.len
 have hck : ∀ {M : List Nat} {w0 : World} {H : List Ent} (w : World), St M w0 w H → (∀ e ∈ A, e ∈ H) → Calls Tryz.prog 26 #[.slice q L.length c] w (Give (.int .i64 0) w) := fun w hs hm => by
  have := check_ok _ L w (TiAt.of hs (hv.mono hm)) (hx.mx hs hm) hlim hlen
  rw [if_pos hr] at this
  exact this
 have hct : ∀ {M : List Nat} {w0 : World} {H : List Ent} (w : World), St M w0 w H → (∀ e ∈ A, e ∈ H) → Calls Tryz.prog 27 #[.slice q L.length c, fnV 25 [] []] w (Give (.bool false) w) := fun w hs hm => by
  have := contF_ok hs (hv.mono hm) below_pred hlim
  rw [hb] at this
  exact this
 refine calls_of_WD (vs := [.slice q L.length c]) Tryz.func15 rfl Tryz.ntmps15 (Nat.le_of_ble_eq_true rfl) hst.fromHere ?_
 simp only [argL]
 cases o with
 | none =>
  repeat' (first | (apply gL; first | (apply Wl.ev rfl rfl; exact Zu) | (refine lB 1 ?_; refine wl_box rfl rfl rfl rfl ?_; intro b1) | (refine lA 2 ?_; refine wl_alloc rfl rfl (zeroT rfl) ?_; intro b2) | (refine lA 3 ?_; refine wl_alloc rfl rfl (zeroT rfl) ?_; intro b3) | (refine lB 18 ?_; refine wl_box rfl rfl rfl rfl ?_; intro r) | (refine lA 5 ?_; refine wl_alloc rfl rfl (zeroT rfl) ?_; intro b5) | (refine lD 26 ?_; refine wl_call0 rfl rfl has26 rfl Zea ?_) | (refine lD 27 ?_; refine wl_call0 rfl rfl has27 rfl Zeb ?_) | ((show Wl _ _ _ _ _ _ _ (⟨none, .defer _, _, _, _, _⟩ :: _) _ _); refine wl_defer (f := 28) (cs := [ptr b2, ptr b3, ptr b5, ptr b1]) rfl rfl ?_) | (refine lC 21 30 ?_; refine wl_callBF rfl has30 rfl (fun w hs => shad_none (b5 := b5) (b3 := b3) (b2 := b2) (b1 := b1) (A := A) e hs hv hlim hxs) ?_; intro a1 w1 hf1 hs1; refine panic_cc (f := 28) (cs := [ptr b2, ptr b3, ptr b5, ptr b1]) has28 (catch_some (b2 := b2) (b3 := b3) (b5 := b5) (b1 := b1) (r := r) (a := L.length - l'.length) (lv := .slice q L.length c) (A := A) (L := L) (hs1.subc (by intro e; simp only [cnt_cons]; omega)) hv (Nat.sub_le _ _) hlim) hf1 rfl rfl (agT rfl) Zd (szT rfl) rfl (agT rfl) Zd (szT rfl) ?_; intro w hs) | apply Wl.nil | (refine Zf9 ?_; try simp only [List.set])) | (apply gQ; first | (apply Wq.ev rfl rfl; exact Zu)) | (apply lW; first | apply W.seq | apply W.region | apply W.skip | (refine Zbg ?_)))
  all_goals first | exact GivesS.ofC hst hs () trivial rfl Zr | contradiction | exact Zy
 | some ps =>
  have hcnt : cntL ps + 1 ≤ 1500000 := by
   have := (pF_cnt f (.shad []) L ps l' e).1
   simp only [baseN, cntL] at this
   omega
  obtain ⟨rr, hp⟩ : ∃ rr, putP (.mk 1 [] [] 0 0 ps) 0 0 none = rr := ⟨_, rfl⟩
  unfold ParR
  dsimp only
  rw [hp]
  obtain ⟨ns, sp⟩ := rr
  cases sp with
  | none =>
   repeat' (first | (apply gL; first | (apply Wl.ev rfl rfl; exact Zu) | (refine lB 1 ?_; refine wl_box rfl rfl rfl rfl ?_; intro b1) | (refine lA 2 ?_; refine wl_alloc rfl rfl (zeroT rfl) ?_; intro b2) | (refine lA 3 ?_; refine wl_alloc rfl rfl (zeroT rfl) ?_; intro b3) | (refine lB 18 ?_; refine wl_box rfl rfl rfl rfl ?_; intro r) | (refine lA 5 ?_; refine wl_alloc rfl rfl (zeroT rfl) ?_; intro b5) | (refine Zgm ?_) | (refine lD 26 ?_; refine wl_call0 rfl rfl has26 rfl Zea ?_) | (refine lD 27 ?_; refine wl_call0 rfl rfl has27 rfl Zeb ?_) | ((show Wl _ _ _ _ _ _ _ (⟨none, .defer _, _, _, _, _⟩ :: _) _ _); refine wl_defer (f := 28) (cs := [ptr b2, ptr b3, ptr b5, ptr b1]) rfl rfl ?_) | (refine lC 21 30 ?_; refine wl_callS rfl rfl has30 rfl Zfm ?_; rintro t ⟨hok, htp⟩) | (refine lC 22 29 ?_; refine wl_callS rfl rfl has29 rfl (fun w hs => flat_some htp hp hs hok hcnt) ?_; rintro ⟨N2, o3⟩ ⟨h2, ho3, hN2⟩) | apply Wl.nil | (refine Zf9 ?_; try simp only [List.set])) | (apply gQ; first | (apply Wq.ev rfl rfl; exact Zu)) | (apply lW; first | apply W.seq | ((show W _ _ _ _ _ _ (.inl .ret :: _) _ _); refine W.retccD (f := 28) (cs := [ptr b2, ptr b3, ptr b5, ptr b1]) has28 (catch_idle b2 b3 b5 b1) rfl rfl (agT rfl) Zd (szT rfl) rfl (agT rfl) Zd (szT rfl) ?_; intro w hs) | apply W.region | apply W.skip | (refine Zbg ?_)))
   all_goals first | exact GivesS.ofC hst hs (N2, o3) ⟨h2, ho3, hN2⟩ rfl Zdr | contradiction | exact Zy
  | some y =>
   repeat' (first | (apply gL; first | (apply Wl.ev rfl rfl; exact Zu) | (refine lB 1 ?_; refine wl_box rfl rfl rfl rfl ?_; intro b1) | (refine lA 2 ?_; refine wl_alloc rfl rfl (zeroT rfl) ?_; intro b2) | (refine lA 3 ?_; refine wl_alloc rfl rfl (zeroT rfl) ?_; intro b3) | (refine lB 18 ?_; refine wl_box rfl rfl rfl rfl ?_; intro r) | (refine lA 5 ?_; refine wl_alloc rfl rfl (zeroT rfl) ?_; intro b5) | (refine Zgm ?_) | (refine lD 26 ?_; refine wl_call0 rfl rfl has26 rfl Zea ?_) | (refine lD 27 ?_; refine wl_call0 rfl rfl has27 rfl Zeb ?_) | ((show Wl _ _ _ _ _ _ _ (⟨none, .defer _, _, _, _, _⟩ :: _) _ _); refine wl_defer (f := 28) (cs := [ptr b2, ptr b3, ptr b5, ptr b1]) rfl rfl ?_) | (refine lC 21 30 ?_; refine wl_callS rfl rfl has30 rfl Zfm ?_; rintro t ⟨hok, htp⟩) | (refine lC 22 29 ?_; refine wl_callS rfl rfl has29 rfl (fun w hs => flat_far htp hp hs hok hcnt) ?_; intro q1 hq1; clear hq1) | apply Wl.nil | (refine Zf9 ?_; try simp only [List.set])) | (apply gQ; first | (apply Wq.ev rfl rfl; exact Zu)) | (apply lW; first | apply W.seq | ((show W _ _ _ _ _ _ (.inl .ret :: _) _ _); refine W.retccD (f := 28) (cs := [ptr b2, ptr b3, ptr b5, ptr b1]) has28 (catch_idle b2 b3 b5 b1) rfl rfl (agT rfl) Zd (szT rfl) rfl (agT rfl) Zd (szT rfl) ?_; intro w hs) | apply W.region | apply W.skip | (refine Zbg ?_)))
   all_goals first | exact GivesS.ofC hst hs () trivial rfl Zdr | contradiction | exact Zy
end Go.Proofs.YtbinaeemcidicaaGreatDoor
