/- Walks: the law parses: the tree of some tokens, twice. No condition but the cell that the library's search reads. -/
import Derived.Test.YtbinaeemcidicaaGreatZNC
import Derived.Test.YtbinaeemcidicaaGreatZND
import Derived.Test.YtbinaeemcidicaaGreatZWU
set_option maxRecDepth 100000
set_option maxHeartbeats 16000000
namespace Go.Proofs.YtbinaeemcidicaaGreat
open Go.PB Go.RowKit
attribute [local irreducible] Go.Calls
def plaV (x : Nk) : Nv := ⟨x.1, ownV x.1.ks.length x.2⟩
theorem nvsC_cons (x : Nv) (b : List Nv) : nvsC (x :: b) = nvC x ++ nvsC b := by unfold nvsC; rw [List.flatMap_cons]
theorem nds_pla : ∀ l : List Nk, ndsC l = nvsC (l.map plaV)
 | [] => rfl
 | x :: l => by
  rw [ndsC_cons, List.map_cons, nvsC_cons, nds_pla l]
  rfl
theorem putL_kl : ∀ (l : List Pt) (d b : Nat) (sp : Option Int), (putL l d b sp).1.length ≤ cntL l
 | [], d, b, sp => by rw [putL]; exact Nat.zero_le _
 | .mk kd ty tx nm pl ks :: l, d, b, sp => by
  rw [putL, cntL, cntP]
  have := putL_kl l d (b + (putP (.mk kd ty tx nm pl ks) (d + 1) b sp).1.length) (putP (.mk kd ty tx nm pl ks) (d + 1) b sp).2
  rw [List.length_cons]
  omega
mutual
theorem putP_ks : ∀ (p : Pt) (d b : Nat) (sp : Option Int) (y : Nd), y ∈ (putP p d b sp).1 → y.ks.length ≤ cntP p
 | .mk kd ty tx nm pl ks, d, b, sp, y, hy => by
  cases sp with
  | some x => rw [putP_some] at hy; cases hy
  | none =>
   by_cases h : 32 < d
   ·rw [putP_deep h] at hy; cases hy
   ·rw [putP_go h] at hy
    rw [cntP]
    rcases List.mem_cons.1 hy with rfl | hy
    ·have := putL_kl ks d (b + 1) none
     show (putL ks d (b + 1) none).1.length ≤ _
     omega
    ·have := putL_ks ks d (b + 1) none y hy
     omega
theorem putL_ks : ∀ (l : List Pt) (d b : Nat) (sp : Option Int) (y : Nd), y ∈ (putL l d b sp).2.1 → y.ks.length ≤ cntL l
 | [], d, b, sp, y, hy => by rw [putL] at hy; cases hy
 | p :: l, d, b, sp, y, hy => by
  rw [putL] at hy
  rw [cntL]
  rcases List.mem_append.1 hy with hy | hy
  ·have := putP_ks p (d + 1) b sp y hy
   omega
  ·have := putL_ks l _ _ _ y hy
   omega
end
theorem RdT_nkZ {H : List Ent} {N : List Nk} {o : Ow} (ho : ownOk N.length 6 (ndsC N) o) (hk : ndKok N) (h1 : ∀ p ∈ ndKH N, p ∈ H) (h2 : ∀ p ∈ ownH 45 o, p ∈ H) : RdT H (ownV N.length o) (N.map plaV) := by
 refine ⟨?_, fun y hy => ?_⟩
 ·rw [List.length_map, ← nds_pla]
  exact RdX.own (e := 45) ho h2
 ·obtain ⟨x, hx, rfl⟩ := List.mem_map.1 hy
  exact RdX.own (hk x hx) (fun p hp => h1 p (List.mem_flatMap.2 ⟨_, hx, hp⟩))
theorem few_facts (L : List Ti) : (fewS L).length ≤ 400 ∧ ∀ t ∈ fewS L, t.t.length ≤ 50 := by
 unfold fewS
 refine ⟨by rw [List.length_map, List.length_take]; omega, fun t ht => ?_⟩
 obtain ⟨u, _, rfl⟩ := List.mem_map.1 ht
 show (u.t.take 50).length ≤ 50
 rw [List.length_take]
 omega
theorem few_rd {H : List Ent} {F : List Ti} {fb fcap : Nat} {fcur : Array Value} (hm : (⟨fb, true, .cells fcur 42 (0, 0)⟩ : Ent) ∈ H) (hE : ∀ (j : Nat) (u : Value), (tisC F)[j]? = some u → fcur[j]? = some u) (hc : F.length + 1 ≤ fcap) : RdX H (.slice (some ⟨fb, 0, none⟩) F.length fcap) F.length (tisC F) :=
 .inr ⟨fb, 0, fcap, fcur, 42, (0, 0), true, rfl, hm, by omega, fun j u hu => by rw [Nat.zero_add]; exact hE j u hu⟩
theorem spoil_call {M : List Nat} {w0 w : World} {H R : List Ent} {N : List Nk} {o : Ow} (hst : St M w0 w H) (hc : ∀ e, List.count e ((R ++ ndKH N) ++ ownH 45 o) ≤ List.count e H) (ho : ownOk N.length 6 (ndsC N) o) (hk : ndKok N) (hN : N.length ≤ 1500000) :
  Calls Tryz.prog 13 #[.agg [ownV N.length o].toArray] w (GivesS (fun _ : Unit => .tuple #[]) (fun _ => True) M w0 fun _ => R) := spoil_ok (hst.subc hc) ho hk hN
def ErrG (G : FuncId) (F : List Ti) (e z : Int) : Prop := ∀ {fb fcap : Nat} {fcur : Array Value} {M : List Nat} {w0 w : World} {H : List Ent}, St M w0 w H → MxE H → (⟨fb, true, .cells fcur 42 (0, 0)⟩ : Ent) ∈ H → (∀ (j : Nat) (u : Value), (tisC F)[j]? = some u → fcur[j]? = some u) → F.length + 1 ≤ fcap →
 Calls Tryz.prog G #[.slice (some ⟨fb, 0, none⟩) F.length fcap] w (GivesS (fun _ : Unit => .tuple #[.agg [.slice none 0 0].toArray, .agg [.int .i64 e, .int .i64 z].toArray]) (fun _ => True) M w0 fun _ => H)
def OkG (G : FuncId) (F : List Ti) (ns : List Nd) : Prop := ∀ {fb fcap : Nat} {fcur : Array Value} {M : List Nat} {w0 w : World} {H : List Ent}, St M w0 w H → MxE H → (⟨fb, true, .cells fcur 42 (0, 0)⟩ : Ent) ∈ H → (∀ (j : Nat) (u : Value), (tisC F)[j]? = some u → fcur[j]? = some u) → F.length + 1 ≤ fcap →
 Calls Tryz.prog G #[.slice (some ⟨fb, 0, none⟩) F.length fcap] w (GivesS (fun x : List Nk × Ow => .tuple #[.agg [ownV x.1.length x.2].toArray, .agg [.int .i64 0, .int .i64 0].toArray]) (fun x => x.1.map Prod.fst = ns ∧ ownOk x.1.length 6 (ndsC x.1) x.2 ∧ ndKok x.1) M w0 fun x => (H ++ ndKH x.1) ++ ownH 45 x.2)
theorem both (F : List Ti) (hl : F.length ≤ 400) (ht : ∀ t ∈ F, t.t.length ≤ 50) : (tokB F = false ∧ ErrG 11 F 2 0) ∨ (tokB F = true ∧ ∃ e z, ErrG 11 F e z ∧ ErrG 10 F e z) ∨ (tokB F = true ∧ ∃ ns, OkG 11 F ns ∧ OkG 10 F ns ∧ ns.length ≤ 1000 ∧ ∀ y ∈ ns, y.ks.length ≤ 1048576) := by
 cases hb : tokB F with
 | false => exact .inl ⟨rfl, fun hs hx hm hE hc => parseT_no hs hx (few_rd hm hE hc) Zga (fun t h => by have := ht t h; omega) hb⟩
 | true =>
  refine .inr ?_
  have hb' := hb
  unfold tokB at hb'
  rw [Bool.and_eq_true, Bool.not_eq_true'] at hb'
  obtain ⟨hbl, hr⟩ := hb'
  have hg := (right_gd hr).2
  have hsome := pF_some (fuelN (.shad []) F) (.shad []) F (Nat.le_refl _)
  unfold IsS at hsome
  obtain ⟨⟨o, l'⟩, e⟩ := Option.isSome_iff_exists.1 hsome
  have hfu : fuelN (.shad []) F + 20 ≤ 1000000000 := by unfold fuelN; simp only [rankN]; omega
  have hP : ∀ {fb fcap : Nat} {fcur : Array Value} {M : List Nat} {w0 w : World} {H : List Ent}, St M w0 w H → MxE H → (⟨fb, true, .cells fcur 42 (0, 0)⟩ : Ent) ∈ H → (∀ (j : Nat) (u : Value), (tisC F)[j]? = some u → fcur[j]? = some u) → F.length + 1 ≤ fcap → Calls Tryz.prog 11 #[.slice (some ⟨fb, 0, none⟩) F.length fcap] w (ParR F o l' M w0 H) :=
   fun hs hx hm hE hc => parseT_ok hs hx (few_rd hm hE hc) hr hbl (fun t h => (hg t h).2.1) (fun t h => by have := ht t h; omega) e
  have hR : ∀ {fb fcap : Nat} {fcur : Array Value} {M : List Nat} {w0 w : World} {H : List Ent}, St M w0 w H → MxE H → (⟨fb, true, .cells fcur 42 (0, 0)⟩ : Ent) ∈ H → (∀ (j : Nat) (u : Value), (tisC F)[j]? = some u → fcur[j]? = some u) → F.length + 1 ≤ fcap → Calls Tryz.prog 10 #[.slice (some ⟨fb, 0, none⟩) F.length fcap] w (ParR F o l' M w0 H) :=
   fun hs _ hm hE hc => parseR_ok hfu hs (few_rd hm hE hc) Zga (fun t h => (hg t h).1) (fun t h => (hg t h).2.1) e
  unfold ParR at hP hR
  cases o with
  | none => exact .inl ⟨rfl, _, _, hP, hR⟩
  | some ps =>
   dsimp only at hP hR
   unfold FlatR at hP hR
   have hcnt := (pF_cnt _ (.shad []) F ps l' e).1
   simp only [baseN, cntL] at hcnt
   obtain ⟨ns, sp, hp⟩ : ∃ ns sp, putP (.mk 1 [] [] 0 0 ps) 0 0 none = (ns, sp) := ⟨_, _, rfl⟩
   rw [hp] at hP hR
   cases sp with
   | some y => exact .inl ⟨rfl, _, _, hP, hR⟩
   | none =>
    refine .inr ⟨rfl, ns, hP, hR, ?_, ?_⟩
    ·have := putP_le (.mk 1 [] [] 0 0 ps) 0 0 none
     rw [hp, cntP] at this
     dsimp only at this
     omega
    ·intro y hy
     have := putP_ks (.mk 1 [] [] 0 0 ps) 0 0 none y (by rw [hp]; exact hy)
     rw [cntP] at this
     omega
theorem spoil_none {M : List Nat} {w0 w : World} {H : List Ent} (hs : St M w0 w H) : Calls Tryz.prog 13 #[.agg [.slice none 0 0].toArray] w (GivesS (fun _ : Unit => .tuple #[]) (fun _ => True) M w0 fun _ => H) :=
 spoil_ok (R := H) (N := []) (o := none) (by simpa [ndKH, ownH_none] using hs) ⟨rfl, rfl⟩ (fun x hx => by cases hx) Zgn
theorem RdT_nil {H : List Ent} : RdT H (.slice none 0 0) [] := ⟨.inl ⟨none, 0, rfl, rfl⟩, fun y hy => by cases hy⟩
theorem MxE.up {A H : List Ent} (h : MxE A) (hm : ∀ e ∈ A, e ∈ H) : MxE H := by
 obtain ⟨arr, et, fr, wr, m, h1, h2⟩ := h
 exact ⟨arr, et, fr, wr, m, hm _ h1, h2⟩
theorem MxE.ro {A : List Ent} (h : MxE A) : MxE (ro A) := by
 obtain ⟨arr, et, fr, wr, m, h1, h2⟩ := h
 exact ⟨arr, et, fr, false, m, mem_ro h1, h2⟩
theorem nkz_ks {N : List Nk} {ns : List Nd} (h : N.map Prod.fst = ns) (hk : ∀ y ∈ ns, y.ks.length ≤ 1048576) : ∀ y ∈ N.map plaV, y.nd.ks.length ≤ 1048576 := fun y hy => by
 obtain ⟨x, hx, rfl⟩ := List.mem_map.1 hy
 exact hk x.1 (by rw [← h]; exact List.mem_map.2 ⟨x, hx, rfl⟩)
theorem nkz_eq {N N' : List Nk} {ns : List Nd} (h : N.map Prod.fst = ns) (h' : N'.map Prod.fst = ns) : (N.map plaV).map Nv.nd = (N'.map plaV).map Nv.nd := by
 rw [List.map_map, List.map_map]
 exact h.trans h'.symm
theorem parses_ok {M : List Nat} {w0 w : World} {R : List Ent} {v : Value} {l : List Ti} (hst : St M w0 w R) (hx : MxE R) (hv : RdX R v l.length (tisC l)) (hl : l.length ≤ 9223372036854775807) (hcp : ∀ p m c, v = .slice p m c → m ≤ c) :
  Calls Tryz.prog 5 #[v] w (Give (.bool true) w) := by
 have hv' := hv.ro
 have hxo := hx.ro
 obtain ⟨hF4, hF5⟩ := few_facts l
 have hF : ∀ t ∈ fewS l, t.t.length ≤ 1000000 := fun t h => by have := hF5 t h; omega
 refine give_of_W (vs := [v]) Tryz.func5 rfl Tryz.ntmps5 (Nat.le_of_ble_eq_true rfl) hst.reads ?_
 simp only [argL]
 rcases both (fewS l) hF4 hF5 with ⟨hb, hP⟩ | ⟨hb, e, z, hP, hR⟩ | ⟨hb, ns, hP, hR, hnl, hnk⟩
 ·repeat' (first | (apply gL; first | (apply Wl.ev rfl rfl; exact Zev) | (refine lD 8 ?_; refine wl_callX rfl rfl has8 rfl Zl7 ?_; rintro ⟨fb, fcap, fcur⟩ ⟨hE, h77, hcc⟩; dsimp only at hE h77 hcc ⊢; simp only [ents, List.map_cons, List.map_nil, List.cons_append, List.nil_append]; try simp only [ents, List.map_cons, List.map_nil, List.cons_append, List.nil_append]) | (refine Zey ?_; refine wl_alloc rfl rfl (zeroT rfl) ?_; intro b3) | (refine lA 4 ?_; refine wl_alloc rfl rfl (zeroT rfl) ?_; intro b4) | (refine lA 6 ?_; refine wl_alloc rfl rfl (zeroT rfl) ?_; intro b6) | (refine lA 7 ?_; refine wl_alloc rfl rfl (zeroT rfl) ?_; intro b7) | (refine Zgh ?_) | (refine lD 9 ?_; refine wl_call0 rfl rfl has9 rfl Zk6 ?_) | apply Wl.nil) | (apply gQ; first | (apply Wq.ev rfl rfl; exact Zev)) | (apply lW; first | apply W.seq | ((show W _ _ _ _ _ _ (.inl (.loop _) :: _) _ _); refine W.loop (X := Nat) (fun k => [(0, .slice (some ⟨fb, 0, none⟩) (fewS l).length fcap), (3, ptr b3), (4, ptr b4), (5, .int .i64 (k : Nat))]) (fun _ => ⟨b4, true, row [.int .i64 2, .int .i64 0] 28⟩ :: ⟨b3, true, row [.slice none 0 0] 35⟩ :: ⟨fb, true, .cells fcur 42 (0, 0)⟩ :: ro R) (fun k => k ≤ 2) (fun k => 2 - k) 0 Zga Zm Zb ?_) | apply W.region | apply W.block | apply W.skip | (refine Zbc ?_)))
  all_goals first | contradiction | skip
  intro k hk
  by_cases hlt : k < 2
  ·repeat' (first | (apply gL; first | (apply Wl.ev rfl rfl; exact Zc3) | (refine lD 11 ?_; refine wl_callS rfl rfl has11 rfl Zhd ?_; rintro ⟨⟩ -) | (refine Zey ?_; refine wl_alloc rfl rfl (zeroT rfl) ?_; intro b3) | (refine lA 4 ?_; refine wl_alloc rfl rfl (zeroT rfl) ?_; intro b4) | (refine lA 6 ?_; refine wl_alloc rfl rfl (zeroT rfl) ?_; intro b6) | (refine lA 7 ?_; refine wl_alloc rfl rfl (zeroT rfl) ?_; intro b7) | (refine Zgh ?_) | (refine lD 12 ?_; refine wl_call0 rfl rfl has12 rfl Zmr ?_) | (refine lD 13 ?_; refine wl_callS rfl rfl has13 rfl (fun w hs => spoil_none hs) ?_; rintro ⟨⟩ -) | apply Wl.nil) | (apply gQ; first | (apply Wq.ev rfl rfl; exact Zc3)) | (apply lW; first | apply W.seq | apply W.region | apply W.block | apply W.blk | apply W.skip | (refine Zbc ?_) | (refine Zv ?_ ?_ <;> (intro h; try exact Za))))
   all_goals first | exact W.again (k + 1) Zga Zga Zm Zb | contradiction | exact Zz
  ·repeat' (first | (apply gL; first | (apply Wl.ev rfl rfl; exact Zim) | apply Wl.nil) | (apply gQ; first | (apply Wq.ev rfl rfl; exact Zim)) | (apply lW; first | apply W.seq | apply W.region | (refine Zbm ?_) | (refine Zv ?_ ?_ <;> (intro h; try exact Za)) | (refine Zx ?_; intro w hs)))
   all_goals first | exact ret_eq hs rfl | contradiction | exact Zz
 ·repeat' (first | (apply gL; first | (apply Wl.ev rfl rfl; exact Zev) | (refine lD 8 ?_; refine wl_callX rfl rfl has8 rfl Zl7 ?_; rintro ⟨fb, fcap, fcur⟩ ⟨hE, h77, hcc⟩; dsimp only at hE h77 hcc ⊢; simp only [ents, List.map_cons, List.map_nil, List.cons_append, List.nil_append]; try simp only [ents, List.map_cons, List.map_nil, List.cons_append, List.nil_append]) | (refine Zey ?_; refine wl_alloc rfl rfl (zeroT rfl) ?_; intro b3) | (refine lA 4 ?_; refine wl_alloc rfl rfl (zeroT rfl) ?_; intro b4) | (refine lA 6 ?_; refine wl_alloc rfl rfl (zeroT rfl) ?_; intro b6) | (refine lA 7 ?_; refine wl_alloc rfl rfl (zeroT rfl) ?_; intro b7) | (refine Zgh ?_) | (refine lD 9 ?_; refine wl_call0 rfl rfl has9 rfl Zk6 ?_) | (refine lD 10 ?_; refine wl_callS rfl rfl has10 rfl (fun w hs => hR hs (hxo.up Zb8) Zd hE hcc) ?_; rintro ⟨⟩ -) | apply Wl.nil) | (apply gQ; first | (apply Wq.ev rfl rfl; exact Zev)) | (apply lW; first | apply W.seq | ((show W _ _ _ _ _ _ (.inl (.loop _) :: _) _ _); refine W.loop (X := Nat) (fun k => [(0, .slice (some ⟨fb, 0, none⟩) (fewS l).length fcap), (3, ptr b3), (4, ptr b4), (5, .int .i64 (k : Nat))]) (fun _ => ⟨b4, true, row [.int .i64 e, .int .i64 z] 28⟩ :: ⟨b3, true, row [.slice none 0 0] 35⟩ :: ⟨fb, true, .cells fcur 42 (0, 0)⟩ :: ro R) (fun k => k ≤ 2) (fun k => 2 - k) 0 Zga Zm Zb ?_) | apply W.region | apply W.block | (refine Zbh ?_)))
  all_goals first | contradiction | skip
  intro k hk
  by_cases hlt : k < 2
  ·repeat' (first | (apply gL; first | (apply Wl.ev rfl rfl; exact Zc3) | (refine lD 11 ?_; refine wl_callS rfl rfl has11 rfl Zhd ?_; rintro ⟨⟩ -) | (refine Zey ?_; refine wl_alloc rfl rfl (zeroT rfl) ?_; intro b3) | (refine lA 4 ?_; refine wl_alloc rfl rfl (zeroT rfl) ?_; intro b4) | (refine lA 6 ?_; refine wl_alloc rfl rfl (zeroT rfl) ?_; intro b6) | (refine lA 7 ?_; refine wl_alloc rfl rfl (zeroT rfl) ?_; intro b7) | (refine Zgh ?_) | (refine lD 12 ?_; refine wl_call0 rfl rfl has12 rfl Zmr ?_) | (refine lD 13 ?_; refine wl_callS rfl rfl has13 rfl (fun w hs => spoil_none hs) ?_; rintro ⟨⟩ -) | apply Wl.nil) | (apply gQ; first | (apply Wq.ev rfl rfl; exact Zc3)) | (apply lW; first | apply W.seq | apply W.region | apply W.block | apply W.blk | apply W.skip | (refine Zbc ?_) | (refine Zv ?_ ?_ <;> (intro h; try exact Za))))
   all_goals first | exact W.again (k + 1) Zga Zga Zm Zb | contradiction | exact Zz
  ·repeat' (first | (apply gL; first | (apply Wl.ev rfl rfl; exact Zim) | apply Wl.nil) | (apply gQ; first | (apply Wq.ev rfl rfl; exact Zim)) | (apply lW; first | apply W.seq | apply W.region | (refine Zbm ?_) | (refine Zv ?_ ?_ <;> (intro h; try exact Za)) | (refine Zx ?_; intro w hs)))
   all_goals first | exact ret_eq hs rfl | contradiction | exact Zz
 ·repeat' (first | (apply gL; first | (apply Wl.ev rfl rfl; exact Zev) | (refine lD 8 ?_; refine wl_callX rfl rfl has8 rfl Zl7 ?_; rintro ⟨fb, fcap, fcur⟩ ⟨hE, h77, hcc⟩; dsimp only at hE h77 hcc ⊢; simp only [ents, List.map_cons, List.map_nil, List.cons_append, List.nil_append]; try simp only [ents, List.map_cons, List.map_nil, List.cons_append, List.nil_append]) | (refine Zey ?_; refine wl_alloc rfl rfl (zeroT rfl) ?_; intro b3) | (refine lA 4 ?_; refine wl_alloc rfl rfl (zeroT rfl) ?_; intro b4) | (refine lA 6 ?_; refine wl_alloc rfl rfl (zeroT rfl) ?_; intro b6) | (refine lA 7 ?_; refine wl_alloc rfl rfl (zeroT rfl) ?_; intro b7) | (refine Zgh ?_) | (refine lD 9 ?_; refine wl_call0 rfl rfl has9 rfl Zk6 ?_) | (refine lD 10 ?_; refine wl_callS (H' := fun x : List Nk × Ow => ((⟨b4, true, row [.int .i64 2, .int .i64 0] 28⟩ :: ⟨b3, true, row [.slice none 0 0] 35⟩ :: ⟨fb, true, .cells fcur 42 (0, 0)⟩ :: ro R) ++ ndKH x.1) ++ ownH 45 x.2) rfl rfl has10 rfl (fun w hs => hR hs (hxo.up Zb8) Zd hE hcc) ?_; rintro ⟨N1, o1⟩ ⟨hn1, ho1, hk1⟩; dsimp only at hn1 ho1 hk1 ⊢; simp only [List.cons_append]) | apply Wl.nil) | (apply gQ; first | (apply Wq.ev rfl rfl; exact Zev)) | (apply lW; first | apply W.seq | ((show W _ _ _ _ _ _ (.inl (.loop _) :: _) _ _); refine W.loop (X := Nat) (fun k => [(0, .slice (some ⟨fb, 0, none⟩) (fewS l).length fcap), (3, ptr b3), (4, ptr b4), (5, .int .i64 (k : Nat))]) (fun _ => ⟨b4, true, row [.int .i64 0, .int .i64 0] 28⟩ :: ⟨b3, true, row [ownV N1.length o1] 35⟩ :: ⟨fb, true, .cells fcur 42 (0, 0)⟩ :: ((ro R ++ ndKH N1) ++ ownH 45 o1)) (fun k => k ≤ 2) (fun k => 2 - k) 0 Zga Zm Zb ?_) | apply W.region | apply W.block | (refine Zbh ?_)))
  all_goals first | contradiction | skip
  intro k hk
  by_cases hlt : k < 2
  ·repeat' (first | (apply gL; first | (apply Wl.ev rfl rfl; exact Zc3) | (refine lD 11 ?_; refine wl_callS (H' := fun x : List Nk × Ow => ((⟨b4, true, row [.int .i64 0, .int .i64 0] 28⟩ :: ⟨b3, true, row [ownV N1.length o1] 35⟩ :: ⟨fb, true, .cells fcur 42 (0, 0)⟩ :: ((ro R ++ ndKH N1) ++ ownH 45 o1)) ++ ndKH x.1) ++ ownH 45 x.2) rfl rfl has11 rfl Zhd ?_; rintro ⟨N2, o2⟩ ⟨hn2, ho2, hk2⟩; dsimp only at hn2 ho2 hk2 ⊢; simp only [List.cons_append]) | (refine Zey ?_; refine wl_alloc rfl rfl (zeroT rfl) ?_; intro b3) | (refine lA 4 ?_; refine wl_alloc rfl rfl (zeroT rfl) ?_; intro b4) | (refine lA 6 ?_; refine wl_alloc rfl rfl (zeroT rfl) ?_; intro b6) | (refine lA 7 ?_; refine wl_alloc rfl rfl (zeroT rfl) ?_; intro b7) | (refine Zgh ?_) | (refine lD 12 ?_; refine wl_call0 rfl rfl has12 rfl (fun w hs => whole_true hs (RdT_nkZ ho2 hk2 (fun p hp => by simp [hp]) (fun p hp => by simp [hp])) (RdT_nkZ ho1 hk1 (fun p hp => by simp [hp]) (fun p hp => by simp [hp])) (by rw [List.length_map, show N2.length = ns.length by rw [← hn2, List.length_map]]; exact hnl) (nkz_ks hn2 hnk) (nkz_eq hn2 hn1)) ?_) | (refine lD 13 ?_; refine wl_callS (H' := fun _ : Unit => ⟨b7, true, row [.int .i64 0, .int .i64 0] 28⟩ :: ⟨b6, true, row [ownV N2.length o2] 35⟩ :: ⟨b4, true, row [.int .i64 0, .int .i64 0] 28⟩ :: ⟨b3, true, row [ownV N1.length o1] 35⟩ :: ⟨fb, true, .cells fcur 42 (0, 0)⟩ :: ((ro R ++ ndKH N1) ++ ownH 45 o1)) rfl rfl has13 rfl (fun w hs => spoil_call hs (by intro e; simp only [List.count_append, List.cons_append, cnt_cons]; omega) ho2 hk2 (by rw [show N2.length = ns.length by rw [← hn2, List.length_map]]; omega)) ?_; rintro ⟨⟩ -) | apply Wl.nil) | (apply gQ; first | (apply Wq.ev rfl rfl; exact Zc3)) | (apply lW; first | apply W.seq | apply W.region | apply W.block | apply W.blk | apply W.skip | (refine Zbc ?_) | (refine Zv ?_ ?_ <;> (intro h; try exact Za))))
   all_goals first | exact W.again (k + 1) Zga Zga Zm Zb | contradiction | exact Zz
  ·repeat' (first | (apply gL; first | (apply Wl.ev rfl rfl; exact Zim) | apply Wl.nil) | (apply gQ; first | (apply Wq.ev rfl rfl; exact Zim)) | (apply lW; first | apply W.seq | apply W.region | (refine Zbm ?_) | (refine Zv ?_ ?_ <;> (intro h; try exact Za)) | (refine Zx ?_; intro w hs)))
   all_goals first | exact ret_eq hs rfl | contradiction | exact Zz
end Go.Proofs.YtbinaeemcidicaaGreat
