/- Walks: whether the layer does anything. No condition but the cell that the library's search reads. -/
import Derived.Test.YtbinaeemcidicaaZQM
namespace Go.Proofs.Ytbinaeemcidicaa
open Go.PB Go.RowKit
attribute [local irreducible] Go.Calls
theorem wk_tlen : wkT.length = 15 := by kernel_rfl
theorem wk_tis : tisC wkL = tksC wkT := tisC_of wkT
theorem wk_parse {lb cap : Nat} {M : List Nat} {w0 w : World} {A : List Ent} (hs : St M w0 w A) (hx : MxE A) (hv : RdX A (.slice (some ⟨lb, 0, none⟩) 15 cap) wkL.length (tisC wkL)) :
    Calls Try.prog 14 #[.slice (some ⟨lb, 0, none⟩) 15 cap] w (GivesS (fun x : Nat × Nat × Array Value => .tuple #[.agg [.slice (some ⟨x.1, 0, none⟩) 10 x.2.1].toArray, .agg [.int .i64 0, .int .i64 0].toArray]) (fun x => x.2.2[0 + (3 : Int).toNat * 6 + 0]? = some (.int .i64 2)) M w0 fun x => ⟨x.1, true, .cells x.2.2 38 (0, 0)⟩ :: A) := by
  have h := par_lex wk_lex (L := wkL) (fun t ht => ht) (by rw [wk_len]; decide) hs hx hv wk_all
  unfold ParR at h
  dsimp only at h
  rw [wk_nd] at h
  refine h.mono fun e w' hR => ?_
  obtain ⟨⟨N2, o3⟩, ⟨h2, ho3, hN2⟩, he, hs'⟩ := hR
  dsimp only at h2 ho3 hN2 he hs'
  have hl : N2.length = 10 := by rw [← List.length_map (f := Prod.fst), h2]; exact wk_n.1
  rw [hl] at ho3 he
  obtain ⟨nb, ncap, ncur, rfl, k1, k2, k3⟩ := own_some ho3 (by decide)
  refine ⟨(nb, ncap, ncur), ?_, he, hs'.subc (by intro e; simp only [List.count_append, cnt_cons, List.count_nil, ownH_some]; omega)⟩
  refine k3 18 _ ?_
  have h3 : (N2.map Prod.fst).getD 3 ⟨0, [], [], 0, [], 0⟩ = wkN.getD 3 ⟨0, [], [], 0, [], 0⟩ := by rw [h2]
  match N2, hl with
  | [n0, n1, n2, n3, n4, n5, n6, n7, n8, n9], _ =>
    show some (Value.int .i64 n3.1.kd) = _
    have : n3.1 = wkN.getD 3 ⟨0, [], [], 0, [], 0⟩ := h3
    rw [this, wk_n.2]
theorem wk_parse3 {lb cap : Nat} {M : List Nat} {w0 w : World} {A : List Ent} (hs : St M w0 w A) (hx : MxE A) (hv : RdX A (.slice (some ⟨lb, 0, none⟩) 15 cap) wkL.length (tisC wkL)) :
    Calls Try.prog 14 #[.slice (some ⟨lb, 0, none⟩) 3 cap] w (GivesS (fun _ : Unit => .tuple #[.agg [.slice none 0 0].toArray, .agg [.int .i64 220, .int .i64 (endP (wkL.take 3) 3)].toArray]) (fun _ => True) M w0 fun _ => A) := by
  rw [wk_len] at hv
  have h3 : (wkL.take 3).length = 3 := by rw [List.length_take, wk_len]; decide
  have h := par_lex wk_lex (L := wkL.take 3) (fun t ht => List.mem_of_mem_take ht) (by rw [h3]; decide) hs hx (hv.pre wk_len.symm (by decide)) wk_bad
  unfold ParR at h
  rw [h3] at h
  exact h
set_option maxRecDepth 100000 in
theorem wakesP_ok (w : World) (hm : Mx w) : Calls Try.prog 8 #[] w (Give (.bool true) w) := by
  obtain ⟨arr, et, fr, m, h0, h1⟩ := mx_ent hm
  refine give_of_W (vs := []) Try.func8 rfl Try.ntmps8 (Nat.le_of_ble_eq_true rfl) (St.read h0 []) ?_
  simp only [argL]
  have lx : ∀ w, Mx w → Calls Try.prog 13 #[st wkS] w (Gives (fun o : Ow => .tuple #[ownV 15 o, spotV 0 0]) (fun o => ownOk 15 5 (tksC wkT) o) w (fun _ => []) (owN 41)) := fun w h => by
    have := lex_ok wkS (by simp) w h
    rw [wk_lex] at this
    unfold LexG at this
    dsimp only at this
    rw [wk_tlen] at this
    exact this
  repeat' (first | (apply gL; first | (apply Wl.ev rfl rfl; (focus (first | exact ev_move rfl | (apply gLoa; first | exact ev_loadAt (agT rfl) rfl (by repeat (first | exact List.Mem.head _ | apply List.Mem.tail)) hcell | exact ev_load (agT rfl) rfl (by repeat (first | exact List.Mem.head _ | apply List.Mem.tail)) rfl | exact ev_loadWhole (agT rfl) (szT rfl) rfl (by repeat (first | exact List.Mem.head _ | apply List.Mem.tail)) rfl) | (apply gFie; first | exact ev_fieldAddr0 (fldT rfl) rfl | exact ev_fieldAddr (fldT rfl) rfl) | exact ev_assign rfl | exact ev_pickT rfl rfl | (apply gBin; first | exact ev_eqi rfl rfl | exact ev_lti rfl rfl | exact ev_eqFlatD (flatT rfl) rfl rfl rfl eqL_ii) | exact ev_extract rfl rfl | (apply gBui; first | (apply ev_build (bldT rfl) rfl; simp [fillP]; rfl)) | (apply gCal; first | exact ev_len_slice (slT rfl) rfl) | (apply gIxA; first | exact ev_indexAddr (slT rfl) (szT rfl) rfl rfl (by omega)) | (apply gSli; first | exact ev_sliceHi (k := 3) (slT rfl) (szT rfl) rfl rfl rfl (by omega))))) | ((show Wl _ _ _ _ _ _ _ (⟨_, .call ⟨.value (.func 13), _, _⟩, _, _, _, _⟩ :: _) _ _); refine wl_callX rfl rfl has13 rfl (fun w hs => lx w (hm.st hs (by simp)) ) ?_; intro o ho; obtain ⟨lb, cap, cur, rfl, hcap, hsz, hget⟩ := own_some ho (by decide); simp only [ents_owN, ownH, List.singleton_append, ownV]; try simp only [ents, List.map_cons, List.map_nil, List.cons_append, List.nil_append]) | ((show Wl _ _ _ _ _ _ _ (⟨some 16, .call ⟨.value (.func 14), _, _⟩, _, _, _, _⟩ :: _) _ _); refine wl_callS rfl rfl has14 rfl (fun w hs => wk_parse hs (⟨arr, et, fr, false, m, (by repeat (first | exact List.Mem.head _ | apply List.Mem.tail)), h1⟩ : MxE _) (.inr ⟨lb, 0, cap, cur, 41, (0, 0), true, by rw [wk_len], (by repeat (first | exact List.Mem.head _ | apply List.Mem.tail)), by rw [wk_len]; exact hcap, fun j u hu => by rw [Nat.zero_add]; exact hget j u (by rw [← wk_tis]; exact hu)⟩)) ?_; rintro ⟨nb, ncap, ncur⟩ hcell; dsimp only at hcell) | ((show Wl _ _ _ _ _ _ _ (⟨some 22, .call ⟨.value (.func 14), _, _⟩, _, _, _, _⟩ :: _) _ _); refine wl_callS rfl rfl has14 rfl (fun w hs => wk_parse3 hs (⟨arr, et, fr, false, m, (by repeat (first | exact List.Mem.head _ | apply List.Mem.tail)), h1⟩ : MxE _) (.inr ⟨lb, 0, cap, cur, 41, (0, 0), true, by rw [wk_len], (by repeat (first | exact List.Mem.head _ | apply List.Mem.tail)), by rw [wk_len]; exact hcap, fun j u hu => by rw [Nat.zero_add]; exact hget j u (by rw [← wk_tis]; exact hu)⟩)) ?_; intro q1 hq1; clear hq1) | (refine wl_storeWhole rfl rfl rfl (szT rfl) (by repeat (first | rfl | refine all_one_cons ?_ ?_)) (by repeat (first | exact Upd.here | apply Upd.there)) (by rfl) ?_) | apply Wl.nil | (refine wl_alloc rfl rfl (zeroT rfl) ?_; intro b)) | (apply gQ; first | (apply Wq.ev rfl rfl; (focus (first | exact ev_move rfl | (apply gLoa; first | exact ev_loadAt (agT rfl) rfl (by repeat (first | exact List.Mem.head _ | apply List.Mem.tail)) hcell | exact ev_load (agT rfl) rfl (by repeat (first | exact List.Mem.head _ | apply List.Mem.tail)) rfl | exact ev_loadWhole (agT rfl) (szT rfl) rfl (by repeat (first | exact List.Mem.head _ | apply List.Mem.tail)) rfl) | (apply gFie; first | exact ev_fieldAddr0 (fldT rfl) rfl | exact ev_fieldAddr (fldT rfl) rfl) | exact ev_assign rfl | exact ev_pickT rfl rfl | (apply gBin; first | exact ev_eqi rfl rfl | exact ev_lti rfl rfl | exact ev_eqFlatD (flatT rfl) rfl rfl rfl eqL_ii) | exact ev_extract rfl rfl | (apply gBui; first | (apply ev_build (bldT rfl) rfl; simp [fillP]; rfl)) | (apply gCal; first | exact ev_len_slice (slT rfl) rfl) | (apply gIxA; first | exact ev_indexAddr (slT rfl) (szT rfl) rfl rfl (by omega)) | (apply gSli; first | exact ev_sliceHi (k := 3) (slT rfl) (szT rfl) rfl rfl rfl (by omega)))))) | ((show W _ _ _ _ _ _ _ _ _); first | apply W.seq | apply W.region | apply W.skip | (refine W.condF rfl ?_) | (refine W.ret1 rfl rfl ?_; intro w hs)))
  all_goals first | exact ret_eq hs rfl | contradiction | (exfalso; omega) | fail
end Go.Proofs.Ytbinaeemcidicaa
