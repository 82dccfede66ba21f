/- Walks: whether the layer does anything. No condition but the cell that the library's search reads. -/
import Derived.Test.YtbinaeemcidicaaGreatZNF
import Derived.Test.YtbinaeemcidicaaGreatZOrd
set_option maxRecDepth 100000
set_option maxHeartbeats 16000000
namespace Go.Proofs.YtbinaeemcidicaaGreat
open Go.PB Go.RowKit
attribute [local irreducible] Go.Calls
theorem has6 : Has Tryz.prog 6 := ⟨_, _, Tryz.func6, rfl, by kernel_rfl⟩
theorem RdX.pre {R : List Ent} {b off n c k : Nat} {L : List Ti} (h : RdX R (.slice (some ⟨b, off, none⟩) n c) n (tisC L)) (hn : n = L.length) (hk : k ≤ n) : RdX R (.slice (some ⟨b, off, none⟩) k c) (L.take k).length (tisC (L.take k)) := by
 subst hn
 rw [List.length_take, Nat.min_eq_left hk]
 rcases h with ⟨p, c', h1, h2⟩ | ⟨b', off', c', arr, et, fr, wr, h1, h2, h3, h4⟩
 ·exact .inl ⟨_, _, by rw [show k = 0 by omega], by omega⟩
 ·cases h1
  exact .inr ⟨b, off, c, arr, et, fr, wr, rfl, h2, by omega, fun j u hu => h4 j u (tisC_take hu)⟩
abbrev wkS : List UInt8 := [118, 111, 105, 100, 32, 109, 97, 105, 110, 40, 41, 123, 105, 110, 116, 32, 97, 61, 49, 45, 50, 45, 51, 59, 125]
def wkT : List Tk := (lexS wkS).1
def wkL : List Ti := wkT.map tiOf
def wkP : List Pt := match pF 60 (.shad []) wkL with
 | some (some ps, _) => ps
 | _ => []
def wkN : List Nd := (putP (.mk 1 [] [] 0 0 wkP) 0 0 none).1
theorem wk_lex : lexS wkS = (wkT, 0, 0) := by kernel_rfl
theorem wk_len : wkL.length = 15 := by kernel_rfl
theorem wk_all : pF 60 (.shad []) wkL = some (some wkP, []) := by kernel_rfl
theorem wk_nd : putP (.mk 1 [] [] 0 0 wkP) 0 0 none = (wkN, none) := by kernel_rfl
theorem wk_n : wkN.length = 10 ∧ (wkN.getD 3 ⟨0, [], [], 0, [], 0⟩).kd = 2 := by
 refine ⟨by kernel_rfl, by kernel_rfl⟩
theorem wk_bad : pF 60 (.shad []) (wkL.take 3) = some (none, []) := by kernel_rfl
theorem wk_fit : rightL wkL = true ∧ rightL (wkL.take 3) = true ∧ (wkL.all fun t => !belowT t && decide (-2147483648 < t.x ∧ t.x ≤ 2147483647 ∧ t.t.length ≤ 1000000)) = true := ⟨by kernel_rfl, by kernel_rfl, by kernel_rfl⟩
theorem par_wk {f : Nat} {L l' : List Ti} (hr : rightL L = true) (hL : ∀ t ∈ L, t ∈ wkL) {M : List Nat} {w0 w : World} {A : List Ent} {lv : Value} {o : Option (List Pt)}
  (hst : St M w0 w A) (hx : MxE A) (hv : RdX A lv L.length (tisC L)) (e : pF f (.shad []) L = some (o, l')) : Calls Tryz.prog 11 #[lv] w (ParR L o l' M w0 A) := by
 have h := fun t ht => List.all_eq_true.1 wk_fit.2.2 t (hL t ht)
 simp only [Bool.and_eq_true, Bool.not_eq_true', decide_eq_true_eq] at h
 exact parseT_ok hst hx hv hr (any_no fun t ht => by rw [(h t ht).1]; simp) (fun t ht => ⟨(h t ht).2.1, (h t ht).2.2.1⟩) (fun t ht => (h t ht).2.2.2) e
theorem wk_tlen : wkT.length = 15 := by kernel_rfl
theorem wk_tis : tisC wkL = tksC wkT := tisC_of wkT
theorem wk_parse {lb cap : Nat} {M : List Nat} {w0 w : World} {A : List Ent} (hs : St M w0 w A) (hx : MxE A) (hv : RdX A (.slice (some ⟨lb, 0, none⟩) 15 cap) wkL.length (tisC wkL)) :
  Calls Tryz.prog 11 #[.slice (some ⟨lb, 0, none⟩) 15 cap] w (GivesS (fun x : Nat × Nat × Array Value => .tuple #[.agg [.slice (some ⟨x.1, 0, none⟩) 10 x.2.1].toArray, .agg [.int .i64 0, .int .i64 0].toArray]) (fun x => x.2.2[0 + (3 : Int).toNat * 6 + 0]? = some (.int .i64 2)) M w0 fun x => ⟨x.1, true, .cells x.2.2 45 (0, 0)⟩ :: A) := by
 have h := par_wk wk_fit.1 (fun t ht => ht) hs hx hv wk_all
 unfold ParR at h
 dsimp only at h
 rw [wk_nd] at h
 refine h.mono fun e w' hR => ?_
 obtain ⟨⟨N2, o3⟩, ⟨h2, ho3, hN2⟩, he, hs'⟩ := hR
 dsimp only at h2 ho3 hN2 he hs'
 have hl : N2.length = 10 := by rw [← List.length_map (f := Prod.fst), h2]; exact wk_n.1
 rw [hl] at ho3 he
 obtain ⟨nb, ncap, ncur, rfl, k1, k2, k3⟩ := own_some ho3 Zf7
 refine ⟨(nb, ncap, ncur), ?_, he, hs'.subc (by intro e; simp only [List.count_append, cnt_cons, List.count_nil, ownH_some]; omega)⟩
 refine k3 18 _ ?_
 have h3 : (N2.map Prod.fst).getD 3 ⟨0, [], [], 0, [], 0⟩ = wkN.getD 3 ⟨0, [], [], 0, [], 0⟩ := by rw [h2]
 match N2, hl with
 | [n0, n1, n2, n3, n4, n5, n6, n7, n8, n9], _ =>
  show some (Value.int .i64 n3.1.kd) = _
  have : n3.1 = wkN.getD 3 ⟨0, [], [], 0, [], 0⟩ := h3
  rw [this, wk_n.2]
theorem wk_parse3 {lb cap : Nat} {M : List Nat} {w0 w : World} {A : List Ent} (hs : St M w0 w A) (hx : MxE A) (hv : RdX A (.slice (some ⟨lb, 0, none⟩) 15 cap) wkL.length (tisC wkL)) :
  Calls Tryz.prog 11 #[.slice (some ⟨lb, 0, none⟩) 3 cap] w (GivesS (fun _ : Unit => .tuple #[.agg [.slice none 0 0].toArray, .agg [.int .i64 220, .int .i64 (endP (wkL.take 3) 3)].toArray]) (fun _ => True) M w0 fun _ => A) := by
 rw [wk_len] at hv
 have h3 : (wkL.take 3).length = 3 := by rw [List.length_take, wk_len]; decide
 have h := par_wk wk_fit.2.1 (fun t ht => List.mem_of_mem_take ht) hs hx (hv.pre wk_len.symm Zf7) wk_bad
 unfold ParR at h
 rw [h3] at h
 exact h
theorem wakesP_ok (w : World) (hm : Mx w) : Calls Tryz.prog 6 #[] w (Give (.bool true) w) := by
 obtain ⟨arr, et, fr, m, h0, h1⟩ := mx_ent hm
 refine give_of_W (vs := []) Tryz.func6 rfl Tryz.ntmps6 (Nat.le_of_ble_eq_true rfl) (St.read h0 []) ?_
 simp only [argL]
 have lx : ∀ w, Mx w → Calls Tryz.prog 7 #[st wkS] w (Gives (fun o : Ow => .tuple #[ownV 15 o, spotV 0 0]) (fun o => ownOk 15 5 (tksC wkT) o) w (fun _ => []) (owN 42)) := fun w h => by
  have := lex_ok wkS Zgn w h
  rw [wk_lex] at this
  unfold LexG at this
  dsimp only at this
  rw [wk_tlen] at this
  exact this
 repeat' (first | (apply gL; first | (apply Wl.ev rfl rfl; (focus (first | exact ev_loadAt (agT rfl) rfl Zd hcell | exact ev_sliceHi (k := 3) (slT rfl) (szT rfl) rfl rfl rfl Zga | exact Zev))) | (refine lD 7 ?_; refine wl_callX rfl rfl has7 rfl (fun w hs => lx w (hm.st hs Zgn) ) ?_; intro o ho; obtain ⟨lb, cap, cur, rfl, hcap, hsz, hget⟩ := own_some ho Zf7; simp only [ents_owN, ownH, List.singleton_append, ownV]; try simp only [ents, List.map_cons, List.map_nil, List.cons_append, List.nil_append]) | (refine lC 16 11 ?_; refine wl_callS rfl rfl has11 rfl (fun w hs => wk_parse hs (⟨arr, et, fr, false, m, Zd, h1⟩ : MxE _) (.inr ⟨lb, 0, cap, cur, 42, (0, 0), true, by rw [wk_len], Zd, by rw [wk_len]; exact hcap, fun j u hu => by rw [Nat.zero_add]; exact hget j u (by rw [← wk_tis]; exact hu)⟩)) ?_; rintro ⟨nb, ncap, ncur⟩ hcell; dsimp only at hcell) | (refine lC 22 11 ?_; refine wl_callS rfl rfl has11 rfl (fun w hs => wk_parse3 hs (⟨arr, et, fr, false, m, Zd, h1⟩ : MxE _) (.inr ⟨lb, 0, cap, cur, 42, (0, 0), true, by rw [wk_len], Zd, by rw [wk_len]; exact hcap, fun j u hu => by rw [Nat.zero_add]; exact hget j u (by rw [← wk_tis]; exact hu)⟩)) ?_; intro q1 hq1; clear hq1) | (refine Zf6 ?_) | apply Wl.nil | (refine Zu ?_; intro b)) | (apply gQ; first | (apply Wq.ev rfl rfl; (focus (first | exact ev_loadAt (agT rfl) rfl Zd hcell | exact ev_sliceHi (k := 3) (slT rfl) (szT rfl) rfl rfl rfl Zga | exact Zev)))) | (apply lW; first | apply W.seq | apply W.region | apply W.skip | (refine Zbc ?_) | (refine Zx ?_; intro w hs)))
 all_goals first | exact ret_eq hs rfl | contradiction | exact Zz
end Go.Proofs.YtbinaeemcidicaaGreat
