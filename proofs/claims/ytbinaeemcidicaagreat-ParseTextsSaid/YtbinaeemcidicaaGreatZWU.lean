/- The document's reader: all its functions read what the plain reader reads. No condition. -/
import Derived.Test.YtbinaeemcidicaaGreatZWH
import Derived.Test.YtbinaeemcidicaaGreatZWX
import Derived.Test.YtbinaeemcidicaaGreatZWI
import Derived.Test.YtbinaeemcidicaaGreatZWJ
import Derived.Test.YtbinaeemcidicaaGreatZWL
import Derived.Test.YtbinaeemcidicaaGreatZWM
import Derived.Test.YtbinaeemcidicaaGreatZWN
import Derived.Test.YtbinaeemcidicaaGreatZWO
import Derived.Test.YtbinaeemcidicaaGreatZWP
import Derived.Test.YtbinaeemcidicaaGreatZWQ
import Derived.Test.YtbinaeemcidicaaGreatZWD
import Derived.Test.YtbinaeemcidicaaGreatZQH
import Derived.Test.YtbinaeemcidicaaGreatZQL
set_option maxRecDepth 100000
set_option maxHeartbeats 16000000
namespace Go.Proofs.YtbinaeemcidicaaGreat
open Go.PB Go.RowKit
attribute [local irreducible] Go.Calls
theorem rfirst_step {f : Nat} (hfb : f ≤ 1000000000) (ihe : RefC f .expr 99 []) : RefC (f + 1) .fst 130 [] := by
 intro M w0 w H K TR r lv L ⟨l0, b0⟩ s' ps hst hu hT hm hsf e
 cases b0 with
 | true => exact rfirst_leaf hst hu hT hm hsf (.inl rfl) e
 | false =>
 cases l0 with
 | nil => exact rfirst_leaf hst hu hT hm hsf (.inr (.inl rfl)) e
 | cons t0 l1 =>
 by_cases hk2 : (hdR (t0 :: l1, false)).k = 2
 ·exact rfirst_leaf hst hu hT hm hsf (.inr (.inr (.inr (.inl hk2)))) e
 by_cases hk3 : (hdR (t0 :: l1, false)).k = 3
 ·exact rfirst_leaf hst hu hT hm hsf (.inr (.inr (.inr (.inr (.inl hk3))))) e
 cases hb1 : isA [[116, 114, 117, 101]] (hdR (t0 :: l1, false)) with
 | true => exact rfirst_leaf hst hu hT hm hsf (.inr (.inr (.inr (.inr (.inr (.inl hb1)))))) e
 | false =>
 cases hb2 : isA [[102, 97, 108, 115, 101]] (hdR (t0 :: l1, false)) with
 | true => exact rfirst_leaf hst hu hT hm hsf (.inr (.inr (.inr (.inr (.inr (.inr hb2)))))) e
 | false =>
 cases hp : isA [[40]] (hdR (t0 :: l1, false)) with
 | true => exact rfirst_par ihe hst hu hT hm hsf hk2 hk3 hb1 hb2 hp e
 | false =>
 cases hcl : (typedT (hdR (t0 :: l1, false)) || (namedT (hdR (t0 :: l1, false)) && anyA [[40]] (hd2R (t0 :: l1, false)))) with
 | true => exact rfirst_call hfb ihe hst hu hT hm hsf hk2 hk3 hb1 hb2 hp hcl e
 | false => exact rfirst_leaf hst hu hT hm hsf (.inr (.inr (.inl ⟨hp, hcl⟩))) e
structure RAll (f : Nat) : Prop where
 ex : RefC f .expr 99 []
 co : RefC f .cond 111 []
 bi : ∀ k, k < 6 → RefC f (.bin k) 118 [.int .i64 (k : Nat)]
 un : RefC f .un 125 []
 fi : RefC f .fst 130 []
 bn : RefC f .bnd 124 []
 sm : RefC f .stmt 110 []
 bl : RefC f .blk 98 []
 va : ∀ (a : Int) (ty tx : List UInt8), RefC f (.decl a ty tx) 67 [.int .i64 a, st ty, st tx]
 fu : ∀ w : Ti, RefG (fun s => if (!s.2 && (namedT (hdR s) && anyA [[40]] (hd2R s))) = true then rF f (.func w) s else none) 66 [.int .i64 w.a, st w.t]
 lo : RefG (fun s => if (!s.2 && isA [[102, 111, 114]] (hdR s)) = true then rF f .loop s else none) 117 []
theorem ref0 {n : Nt} {F : FuncId} {vs : List Value} : RefC 0 n F vs := by
 intro M w0 w H K TR r lv L s s' ps hst hu hT hm hsf e
 rw [rF] at e
 cases e
theorem refNF (w : Ti) : RefG (fun s => if (!s.2 && (namedT (hdR s) && anyA [[40]] (hd2R s))) = true then rF 0 (.func w) s else none) 66 [.int .i64 w.a, st w.t] := by
 intro M w0 wa H K TR r lv L s s' ps hst hu hT hm hsf e
 dsimp only at e
 rw [rF] at e
 split at e <;> cases e
theorem refNL : RefG (fun s => if (!s.2 && isA [[102, 111, 114]] (hdR s)) = true then rF 0 .loop s else none) 117 [] := by
 intro M w0 wa H K TR r lv L s s' ps hst hu hT hm hsf e
 dsimp only at e
 rw [rF] at e
 split at e <;> cases e
theorem ref_all : ∀ f : Nat, f ≤ 1000000000 → RAll f
 | 0, _ => ⟨ref0, ref0, fun _ _ => ref0, ref0, ref0, ref0, ref0, ref0, fun _ _ _ => ref0, refNF, refNL⟩
 | f + 1, h => by
  have hf : f ≤ 1000000000 := by omega
  have ih := ref_all f hf
  refine ⟨rexpr_step ih.co ih.ex, rcond_step (ih.bi 0 Zf7) ih.ex ih.co, fun k hk => rbin_step hk ?_, runary_step ih.un ih.fi, rfirst_step hf ih.ex, rbound_step f, rstmt_step hf ih.bl ih.ex ih.sm ih.lo ih.va, rblock_step hf ih.sm, fun a ty tx => rvars_ok hf ih.ex a ty tx, fun w => rfunc_ok hf ih.bl w, rloop_ok hf ih.bn ih.sm⟩
  unfold binN
  by_cases h5 : k < 5
  ·rw [if_pos h5]
   exact ih.bi (k + 1) Zga
  ·rw [if_neg h5]
   obtain rfl : k = 5 := by omega
   exact rbin6 ih.un
theorem ref_shader {f : Nat} (h : f ≤ 1000000000) : RefG (fun s => (rF f (.shad []) s).map fun x => ([.mk 1 [] [] 0 0 x.1], x.2)) 18 [] :=
 rshad_ok h (rtop_ok (ref_all f h).fu (ref_all f h).va)
end Go.Proofs.YtbinaeemcidicaaGreat
namespace Go.Proofs.YtbinaeemcidicaaGreat
open Go.PB Go.RowKit
attribute [local irreducible] Go.Calls
abbrev flR (tb : Nat) (N : List Nk) (o : Ow) (A : List Ent) : List Ent := ⟨tb, true, row [ownV N.length o] 35⟩ :: ((A ++ ndKH N) ++ ownH 45 o)
abbrev spV (sp : Option Int) : Value := .tuple #[.int .i64 (sp.getD 0), .bool sp.isSome]
def FlaC (t : Tn) : Prop := ∀ {M : List Nat} {w0 w : World} {A : List Ent} {N : List Nk} {o : Ow} {d tb : Nat}, St M w0 w (flR tb N o A) → (∀ e ∈ rnH t, e ∈ A) → tnOk t → ownOk N.length 6 (ndsC N) o → N.length + cntP (tnP t) ≤ 1500000 → d ≤ 33 →
 Calls Tryz.prog 19 #[ptr t.b, .int .i64 (d : Nat), ptr tb] w (GivesS (fun _ : List Nk × Ow => spV (putP (tnP t) d N.length none).2) (fun x => ((putP (tnP t) d N.length none).2 = none → x.1.map Prod.fst = (putP (tnP t) d N.length none).1) ∧ ownOk (N ++ x.1).length 6 (ndsC (N ++ x.1)) x.2 ∧ ndKok x.1) M w0
  (fun x => flR tb (N ++ x.1) x.2 A))
theorem fla_call {t : Tn} (ih : FlaC t) {M : List Nat} {w0 w : World} {H A : List Ent} {N : List Nk} {o : Ow} {d tb : Nat} {x : Int} (hx : x = ((d : Nat) : Int)) (hst : St M w0 w H) (hc : ∀ e, (flR tb N o A).count e ≤ H.count e) (hm : ∀ e ∈ rnH t, e ∈ A) (hok : tnOk t)
  (hown : ownOk N.length 6 (ndsC N) o) (hb : N.length + cntP (tnP t) ≤ 1500000) (hd : d ≤ 33) {sp : Option Int} (hsp : (putP (tnP t) d N.length none).2 = sp) :
  Calls Tryz.prog 19 #[ptr t.b, .int .i64 x, ptr tb] w (GivesS (fun _ : List Nk × Ow => spV sp) (fun x => (sp = none → x.1.map Prod.fst = (putP (tnP t) d N.length none).1) ∧ ownOk (N ++ x.1).length 6 (ndsC (N ++ x.1)) x.2 ∧ ndKok x.1) M w0 (fun x => flR tb (N ++ x.1) x.2 A)) := by
 subst hx hsp
 exact ih (hst.subc hc) hm hok hown hb hd
theorem fla_deep {M : List Nat} {w0 w : World} {H : List Ent} {b : Nat} {kd : Int} {ty tx : List UInt8} {nm pl : Int} {kv : Value} {d tb : Nat} (hst1 : St M w0 w H) (hd : 32 < d) (hm : (⟨b, true, rnO kd ty tx nm pl kv⟩ : Ent) ∈ H) :
  Calls Tryz.prog 19 #[ptr b, .int .i64 (d : Nat), ptr tb] w (GivesS (fun _ : Unit => spV (some pl)) (fun _ => True) M w0 fun _ => H) := by
 (refine Zf2 ?_; simp only [argL])
 repeat' (first | (apply gL; first | (apply Wl.ev rfl rfl; exact Ze8) | apply Wl.nil) | (apply gQ; first | (apply Wq.ev rfl rfl; exact Ze8)) | (apply lW; first | apply W.seq | apply W.region | (refine Zv ?_ ?_ <;> (intro h; try exact Za)) | (refine Zdg ?_; intro w hs)))
 all_goals first | exact GivesS.of hst1 hs () trivial rfl Zb | contradiction | exact Zz
theorem fla_go {b : Nat} {kd : Int} {ty tx : List UInt8} {nm pl : Int} {ow : Ow} {ts : List Tn} (ih : ∀ u ∈ ts, FlaC u) {M : List Nat} {w0 w : World} {A : List Ent} {N : List Nk} {o : Ow} {d tb : Nat} (hst : St M w0 w (flR tb N o A))
  (hm : ∀ e ∈ rnH (.mk b kd ty tx nm pl ow ts), e ∈ A) (hok : tnOk (.mk b kd ty tx nm pl ow ts)) (hown : ownOk N.length 6 (ndsC N) o) (hb : N.length + cntP (tnP (.mk b kd ty tx nm pl ow ts)) ≤ 1500000) (hd : ¬32 < d) :
  Calls Tryz.prog 19 #[ptr b, .int .i64 (d : Nat), ptr tb] w (GivesS (fun _ : List Nk × Ow => spV (putP (tnP (.mk b kd ty tx nm pl ow ts)) d N.length none).2) (fun x => ((putP (tnP (.mk b kd ty tx nm pl ow ts)) d N.length none).2 = none → x.1.map Prod.fst = (putP (tnP (.mk b kd ty tx nm pl ow ts)) d N.length none).1) ∧ ownOk (N ++ x.1).length 6 (ndsC (N ++ x.1)) x.2 ∧ ndKok x.1) M w0
   (fun x => flR tb (N ++ x.1) x.2 A)) := by
 rw [tnOk] at hok
 rw [tnP, cntP] at hb
 rw [tnP, putP_go hd]
 obtain ⟨hko, hts⟩ := hok
 have hkid : RdX A (ownV ts.length ow) ts.length (ptrs ts) := RdX.own hko (fun p hp => hm p (by rw [rnH]; exact List.Mem.tail _ (List.mem_append_left _ hp)))
 have hmA : (⟨b, true, rnO kd ty tx nm pl (ownV ts.length ow)⟩ : Ent) ∈ A := hm _ (by rw [rnH]; exact List.Mem.head _)
 have hkA : ∀ u ∈ ts, ∀ e ∈ rnH u, e ∈ A := fun u hu e he => hm e (by rw [rnH]; exact List.Mem.tail _ (List.mem_append_right _ (by rw [rnsH_flat]; exact List.mem_flatMap.2 ⟨u, hu, he⟩)))
 obtain ⟨kp, kc, hv⟩ := hkid.len
 rw [hv] at hkid hmA
 clear hm hko hv
 obtain ⟨A', pA⟩ : ∃ A', List.Perm A (⟨b, true, rnO kd ty tx nm pl (.slice kp ts.length kc)⟩ :: A') := ⟨_, List.perm_cons_erase hmA⟩
 have hst1 : St M w0 w ((⟨b, true, rnO kd ty tx nm pl (.slice kp ts.length kc)⟩ : Ent) :: (⟨tb, true, row [ownV N.length o] 35⟩ : Ent) :: ((A' ++ ndKH N) ++ ownH 45 o)) := hst.subc (by intro e; have hp := pA.count_eq e; simp only [List.count_append, cnt_cons] at hp ⊢; omega)
 obtain ⟨np, nc, hlv⟩ := (RdX.own (R := ownH 45 o) (e := 45) hown (fun p hp => hp)).len
 (refine Zf2 ?_; simp only [argL])
 repeat' (first | (apply gL; first | (apply Wl.ev rfl rfl; exact Zgb) | ((show Wl _ _ _ _ _ _ _ (⟨some 32, .buildSlice _ _ _, _, _, _, _⟩ :: _) _ _); apply wl_buildSlice rfl rfl (slT rfl) (szT rfl) (zeroT rfl) rfl Zf7 rfl; exact Zq; intro b1) | ((show Wl _ _ _ _ _ _ _ (⟨some 33, .call ⟨.builtin .append, _, _⟩, _, _, _, _⟩ :: _) _ _); refine Wl.reC (H' := ⟨b1, true, row [.int .i64 kd, st ty, st tx, .int .i32 nm, .slice none 0 0, .int .i64 pl] 45⟩ :: (⟨b, true, rnO kd ty tx nm pl (.slice kp ts.length kc)⟩ : Ent) :: (⟨tb, true, row [ownV N.length o] 35⟩ : Ent) :: ((A' ++ ndKH N) ++ ownH 45 o)) Zc0 ?_; refine wl_append_own (m := N.length) (k := 1) (o := o) (xs := ndsC N) (news := [.int .i64 kd, st ty, st tx, .int .i32 nm, .slice none 0 0, .int .i64 pl]) rfl rfl (slT rfl) (szT rfl) (byT rfl) (zeroT rfl) rfl rfl rfl hown Zd rfl (fun j v h => by simpa using h) Zfq Zga Zbj Zga Zt ?_; intro o2 hown2) | (refine Zg9 ?_; try simp only [List.set]) | apply Wl.nil) | (apply gQ; first | (apply Wq.ev rfl rfl; exact Zgb)) | (apply lW; first | apply W.seq | ((show W _ _ _ _ _ _ (.inl (.region 4 _ true) :: _) _ _); refine W.regionM [11] [] [(⟨b, true, rnO kd ty tx nm pl (.slice kp ts.length kc)⟩ : Ent), (⟨tb, true, row [ownV N.length o] 35⟩ : Ent)] mixed ?_) | (refine W.reC (H' := flR tb (N ++ (⟨kd, ty, tx, nm, [], pl⟩, none) :: []) o2 A) (by intro e; have hp := pA.count_eq e; simp only [List.length_append, List.length_cons, List.length_nil, Nat.zero_add, List.count_append, cnt_cons, List.count_nil, ndKH_app, ndKH_cons, ndKH_nil, ownH_none] at hp ⊢; omega) ?_; refine W.loop (X := Nat × List Int × List Nk × Ow × Ow) (fun x => [(1, .int .i64 (d : Nat)), (2, ptr tb), (8, .int .i64 (N.length : Nat)), (38, .slice kp ts.length kc), (39, .int .i64 (ts.length : Nat)), (40, .int .i64 (x.1 : Nat))]) (fun x => flR tb (N ++ (⟨kd, ty, tx, nm, x.2.1, pl⟩, x.2.2.2.2) :: x.2.2.1) x.2.2.2.1 A) (fun x => putI ts kd ty tx nm pl d N x.1 x.2.1 x.2.2.1 none x.2.2.2.1 x.2.2.2.2) (fun x => ts.length - x.1) (0, [], [], o2, none) ⟨Nat.zero_le _, rfl, own_first hown2, fun _ h => Zhr, ⟨rfl, rfl⟩, by simp only [List.length_nil, List.drop_zero]; omega, by simp⟩ Zm (List.Sublist.refl _) ?_) | apply W.region | apply W.block | apply W.skip | (refine Zv ?_ ?_ <;> (intro h; try exact Za))) | ((show Wm _ _ _ _ _ _ _ _ _ _ _ _ _ _ _ _); first | ((refine Zgg ?_)) | (refine Zgj ?_) | (refine Zgm ?_) | (refine Zid ?_) | (refine Wm.take1 Zl rfl Zl Zj Zf7 rfl rfl Zgb Zf Zf ?_) | (refine Wm.take0 Zl rfl Zl Zj Zj Zf7 Zf7 rfl rfl Zgb Zf Zf ?_) | ((fail_if_success (refine Zba ?_)); (refine Zgd ?_ ?_ <;> (intro h; try exact Za))) | ((fail_if_success (refine Zba ?_)); (refine Zgc ?_ ?_ <;> (intro h; try exact Za))) | apply Wm.next) | apply AllO.nil | apply AllO.cons | (refine Or.inl Zj) | ((show _ ∨ Wl _ _ _ _ _ _ _ _ _ _); apply Or.inr) | (refine Zg2 ?_))
 rintro ⟨j, is, N1, o1, ok⟩ hI
 dsimp only at hI ⊢
 have hI' := hI
 obtain ⟨hj, his, hown1, hkN1, hok1, hb1, hspec⟩ := hI'
 have hlA : (N ++ (⟨kd, ty, tx, nm, is, pl⟩, ok) :: N1).length = N.length + 1 + N1.length := by simp only [List.length_append, List.length_cons]; omega
 by_cases hlt : j < ts.length
 ·obtain ⟨nb, cap, cur, rfl, hcap, hsz, hget⟩ := own_some hown1 Zga
  have hcell : cur[0 + (N.length : Int).toNat * 6 + 4]? = some (ownV is.length ok) := hget _ _ (by rw [Int.toNat_natCast, Nat.zero_add]; exact ndsC_at)
  obtain ⟨kb, koff, kc1, karr, ket, kfr, kwr, ke, kmem, kcap, kget⟩ := hkid.pos Zga
  cases ke
  have hkp : karr[koff + (j : Int).toNat * 1]? = some (ptr ts[j].b) := kget j _ (by simp [hlt]) _ Zga
  have hlB : ∀ {ok2 : Ow}, (N ++ ((⟨kd, ty, tx, nm, is ++ [((N.length + 1 + N1.length : Nat) : Int)], pl⟩, ok2) : Nk) :: N1).length = N.length + 1 + N1.length := by intro ok2; simp only [List.length_append, List.length_cons]; omega
  have hdr : (tnsP ts).drop j = tnP ts[j] :: (tnsP ts).drop (j + 1) := by
   have hl : (tnsP ts).length = ts.length := by rw [tnsP_map, List.length_map]
   rw [List.drop_eq_getElem_cons Zga]
   congr 1
   simp only [tnsP_map, List.getElem_map]
  have hbj : N.length + 1 + N1.length + cntP (tnP ts[j]) ≤ 1500000 := by
   rw [hdr, cntL] at hb1
   omega
  have hkl := cntL_len (tnsP ts)
  rw [tnsP_map, List.length_map, ← tnsP_map] at hkl
  obtain ⟨sp, hsp⟩ : ∃ sp, (putP (tnP ts[j]) (d + 1) (N.length + 1 + N1.length) none).2 = sp := ⟨_, rfl⟩
  dsimp only [flR]
  rw [hlA] at hown1 hcap ⊢
  cases sp with
  | some y =>
   have hfin : (putL (tnsP ts) d (N.length + 1) none).2.2 = some y := by
    rw [hspec, hdr, putL]
    dsimp only
    rw [hsp, putL_some]
   repeat' (first | (apply gL; first | (apply Wl.ev rfl rfl; exact Zgi) | ((show Wl _ _ _ _ _ _ _ (⟨some 60, .call ⟨.builtin .append, _, _⟩, _, _, _, _⟩ :: _) _ _); refine wl_append_own (m := is.length) (k := 1) (o := ok) (xs := intV is) (news := [.int .i64 ((N.length + 1 + N1.length : Nat) : Int)]) rfl rfl (slT rfl) (szT rfl) (byT rfl) (zeroT rfl) rfl rfl rfl hok1 Zd rfl (fun j v h => by simpa using h) Zbn Zga Zbj Zga Zt ?_; intro ok2 hok2) | ((show Wl _ _ _ _ _ _ _ (⟨none, .store _ (.tmp 62) (.tmp 60), _, _, _, _⟩ :: _) _ _); refine wl_storeCell rfl rfl rfl (own_oneF _ _) (szT rfl) Ze Zga (fun h => absurd h.2 (Nat.not_lt_zero _)) ?_) | (refine lV 68 ?_; refine wl_callS rfl rfl has19 rfl (fun w hs => fla_call (N := N ++ ((⟨kd, ty, tx, nm, is ++ [((N.length + 1 + N1.length : Nat) : Int)], pl⟩, ok2) : Nk) :: N1) (o := some (nb, cap, cur.setIfInBounds (0 + (N.length : Int).toNat * 6 + 4) (ownV (is.length + 1) ok2))) (A := A) (d := d + 1) (sp := some y) (ih _ (List.getElem_mem hlt)) (Int.natCast_succ d).symm hs Ze9 (hkA _ (List.getElem_mem hlt)) ((tnsOk_all _).1 hts _ (List.getElem_mem hlt)) (put_own hown1 hlB) (by rw [hlB]; exact hbj) Zga (by rw [hlB]; exact hsp)) ?_; rintro ⟨N2, o3⟩ ⟨h2, ho3, hN2⟩) | apply Wl.nil | (apply wl_buildSlice rfl rfl (slT rfl) (szT rfl) (zeroT rfl) rfl Zf7 rfl; exact Zq; intro b)) | (apply gQ; first | (apply Wq.ev rfl rfl; exact Zgi)) | (apply lW; first | apply W.seq | ((show W _ _ _ _ _ _ (.inl (.region 8 _ true) :: _) _ _); refine W.reC (H' := (⟨nb, true, .cells cur 45 (0, 0)⟩ : Ent) :: (⟨tb, true, row [ownV (N.length + 1 + N1.length) (some (nb, cap, cur))] 35⟩ : Ent) :: ((A ++ (ndKH N ++ ndKH N1)) ++ ownH 3 ok)) Zc0 ?_; refine W.regionM [19] [] [(⟨nb, true, .cells cur 45 (0, 0)⟩ : Ent), (⟨tb, true, row [ownV (N.length + 1 + N1.length) (some (nb, cap, cur))] 35⟩ : Ent)] mixed ?_) | apply W.region | apply W.block | apply W.skip | (refine Zbh ?_) | (refine Zv ?_ ?_ <;> (intro h; try exact Za)) | (refine Zdg ?_; intro w hs)) | ((show Wm _ _ _ _ _ _ _ _ _ _ _ _ _ _ _ _); first | ((refine Zgg ?_)) | (refine Zgj ?_) | (refine Zgm ?_) | (refine Zid ?_) | (refine Wm.take1 Zl rfl Zl Zj Zf7 rfl rfl Zgi Zf Zf ?_) | (refine Wm.take0 Zl rfl Zl Zj Zj Zf7 Zf7 rfl rfl Zgi Zf Zf ?_) | ((fail_if_success (refine Zba ?_)); (refine Zgd ?_ ?_ <;> (intro h; try exact Za))) | ((fail_if_success (refine Zba ?_)); (refine Zgc ?_ ?_ <;> (intro h; try exact Za))) | apply Wm.next) | apply AllO.nil | apply AllO.cons | (refine Or.inl Zj) | ((show _ ∨ Wl _ _ _ _ _ _ _ _ _ _); apply Or.inr) | (refine Zg2 ?_))
   all_goals first | contradiction | exact Zz | skip
   all_goals
    have hap : N ++ ((((⟨kd, ty, tx, nm, is ++ [((N.length + 1 + N1.length : Nat) : Int)], pl⟩, ok2) : Nk) :: N1) ++ N2) = N ++ ((⟨kd, ty, tx, nm, is ++ [((N.length + 1 + N1.length : Nat) : Int)], pl⟩, ok2) : Nk) :: N1 ++ N2 := by rw [List.append_assoc]
    refine GivesS.ofC hst1 hs ((((⟨kd, ty, tx, nm, is ++ [((N.length + 1 + N1.length : Nat) : Int)], pl⟩, ok2) : Nk) :: N1) ++ N2, o3) ⟨?_, ?_, ?_⟩ ?_ ?_
    ·exact fun h => by (rw [hfin] at h; cases h)
    ·dsimp only
     rw [hap]
     exact ho3
    ·intro x hx
     rcases List.mem_append.1 hx with hx | hx
     ·rcases List.mem_cons.1 hx with rfl | hx
      ·simpa [intV] using hok2
      ·exact hkN1 x hx
     ·exact hN2 x hx
    ·rw [hfin]
     rfl
    ·intro e
     dsimp only
     rw [hap]
     exact Nat.le_refl _
  | none =>
   repeat' (first | (apply gL; first | (apply Wl.ev rfl rfl; exact Zgi) | ((show Wl _ _ _ _ _ _ _ (⟨some 60, .call ⟨.builtin .append, _, _⟩, _, _, _, _⟩ :: _) _ _); refine wl_append_own (m := is.length) (k := 1) (o := ok) (xs := intV is) (news := [.int .i64 ((N.length + 1 + N1.length : Nat) : Int)]) rfl rfl (slT rfl) (szT rfl) (byT rfl) (zeroT rfl) rfl rfl rfl hok1 Zd rfl (fun j v h => by simpa using h) Zbn Zga Zbj Zga Zt ?_; intro ok2 hok2) | ((show Wl _ _ _ _ _ _ _ (⟨none, .store _ (.tmp 62) (.tmp 60), _, _, _, _⟩ :: _) _ _); refine wl_storeCell rfl rfl rfl (own_oneF _ _) (szT rfl) Ze Zga (fun h => absurd h.2 (Nat.not_lt_zero _)) ?_) | (refine lV 68 ?_; refine wl_callS rfl rfl has19 rfl (fun w hs => fla_call (N := N ++ ((⟨kd, ty, tx, nm, is ++ [((N.length + 1 + N1.length : Nat) : Int)], pl⟩, ok2) : Nk) :: N1) (o := some (nb, cap, cur.setIfInBounds (0 + (N.length : Int).toNat * 6 + 4) (ownV (is.length + 1) ok2))) (A := A) (d := d + 1) (sp := none) (ih _ (List.getElem_mem hlt)) (Int.natCast_succ d).symm hs Ze9 (hkA _ (List.getElem_mem hlt)) ((tnsOk_all _).1 hts _ (List.getElem_mem hlt)) (put_own hown1 hlB) (by rw [hlB]; exact hbj) Zga (by rw [hlB]; exact hsp)) ?_; rintro ⟨N2, o3⟩ ⟨h2, ho3, hN2⟩) | apply Wl.nil | (apply wl_buildSlice rfl rfl (slT rfl) (szT rfl) (zeroT rfl) rfl Zf7 rfl; exact Zq; intro b)) | (apply gQ; first | (apply Wq.ev rfl rfl; exact Zgi)) | (apply lW; first | apply W.seq | ((show W _ _ _ _ _ _ (.inl (.region 8 _ true) :: _) _ _); refine W.reC (H' := (⟨nb, true, .cells cur 45 (0, 0)⟩ : Ent) :: (⟨tb, true, row [ownV (N.length + 1 + N1.length) (some (nb, cap, cur))] 35⟩ : Ent) :: ((A ++ (ndKH N ++ ndKH N1)) ++ ownH 3 ok)) Zc0 ?_; refine W.regionM [19] [] [(⟨nb, true, .cells cur 45 (0, 0)⟩ : Ent), (⟨tb, true, row [ownV (N.length + 1 + N1.length) (some (nb, cap, cur))] 35⟩ : Ent)] mixed ?_) | apply W.region | apply W.block | apply W.blk | apply W.skip | (refine Zbc ?_) | (refine Zv ?_ ?_ <;> (intro h; try exact Za))) | ((show Wm _ _ _ _ _ _ _ _ _ _ _ _ _ _ _ _); first | ((refine Zgg ?_)) | (refine Zgj ?_) | (refine Zgm ?_) | (refine Zid ?_) | (refine Wm.take1 Zl rfl Zl Zj Zf7 rfl rfl Zgi Zf Zf ?_) | (refine Wm.take0 Zl rfl Zl Zj Zj Zf7 Zf7 rfl rfl Zgi Zf Zf ?_) | ((fail_if_success (refine Zba ?_)); (refine Zgd ?_ ?_ <;> (intro h; try exact Za))) | ((fail_if_success (refine Zba ?_)); (refine Zgc ?_ ?_ <;> (intro h; try exact Za))) | apply Wm.next) | apply AllO.nil | apply AllO.cons | (refine Or.inl Zj) | ((show _ ∨ Wl _ _ _ _ _ _ _ _ _ _); apply Or.inr) | (refine Zg2 ?_))
   all_goals first | (refine W.reC (H' := flR tb (N ++ ((⟨kd, ty, tx, nm, is ++ [((N.length + 1 + N1.length : Nat) : Int)], pl⟩, ok2) : Nk) :: (N1 ++ N2)) o3 A) (by intro e; simp only [List.append_assoc, List.cons_append, Nat.le_refl]) ?_; exact W.again (j + 1, is ++ [((N.length + 1 + N1.length : Nat) : Int)], N1 ++ N2, o3, ok2) (by have := putI_next hI hlt (by rw [hlB] at h2; exact h2 rfl) hN2 hok2 ho3; rw [hsp] at this; exact this) (by show ts.length - (j + 1) < ts.length - j; omega) Zm (List.Sublist.refl _)) | contradiction | exact Zz
 ·obtain rfl : j = ts.length := by omega
  rw [List.drop_of_length_le (by rw [tnsP_map, List.length_map]; exact Nat.le_refl _), putL] at hspec
  repeat' (first | (apply gL; first | (apply Wl.ev rfl rfl; exact Zev) | apply Wl.nil) | (apply gQ; first | (apply Wq.ev rfl rfl; exact Zev)) | (apply lW; first | apply W.seq | apply W.region | (refine Zbm ?_) | (refine Zv ?_ ?_ <;> (intro h; try exact Za)) | (refine Zdg ?_; intro w hs)))
  all_goals first | exact GivesS.ofC hst1 hs (((⟨kd, ty, tx, nm, is, pl⟩, ok) : Nk) :: N1, o1) ⟨fun _ => by rw [hspec]; simp, hown1, fun x hx => by rcases List.mem_cons.1 hx with rfl | hx; exact hok1; exact hkN1 x hx⟩ (by rw [hspec]; rfl) (by intro e; exact Nat.le_refl _) | contradiction | exact Zz
theorem fla_mk {b : Nat} {kd : Int} {ty tx : List UInt8} {nm pl : Int} {ow : Ow} {ts : List Tn} (ih : ∀ u ∈ ts, FlaC u) : FlaC (.mk b kd ty tx nm pl ow ts) := by
 intro M w0 w A N o d tb hst hm hok hown hb hd
 by_cases h : 32 < d
 ·have hmA : (⟨b, true, rnO kd ty tx nm pl (ownV ts.length ow)⟩ : Ent) ∈ flR tb N o A :=
   List.Mem.tail _ (List.mem_append_left _ (List.mem_append_left _ (hm _ (by rw [rnH]; exact List.Mem.head _))))
  have hp : putP (tnP (.mk b kd ty tx nm pl ow ts)) d N.length none = ([], some pl) := by rw [tnP]; exact putP_deep h
  refine (fla_deep hst h hmA).mono fun e w' hR => ?_
  obtain ⟨_, _, he, hs⟩ := hR
  refine ⟨([], o), ⟨fun e => by (rw [hp] at e; cases e), by rw [List.append_nil]; exact hown, fun _ h => by cases h⟩, by rw [hp]; exact he, ?_⟩
  dsimp only
  rw [List.append_nil]
  exact hs
 ·exact fla_go ih hst hm hok hown hb h
mutual
theorem fla_ok : ∀ t : Tn, FlaC t
 | .mk _ _ _ _ _ _ _ ts => fla_mk (flas_ok ts)
theorem flas_ok : ∀ (ts : List Tn), ∀ u ∈ ts, FlaC u
 | [], _, h => by cases h
 | t :: ts, u, h => (List.mem_cons.1 h).elim (fun e => e ▸ fla_ok t) (fun h => flas_ok ts u h)
end
end Go.Proofs.YtbinaeemcidicaaGreat
namespace Go.Proofs.YtbinaeemcidicaaGreat
open Go.PB Go.RowKit
attribute [local irreducible] Go.Calls
theorem rsh_call {f : Nat} (hf : f ≤ 1000000000) {r b3 b2 : Nat} {M : List Nat} {w0 w : World} {A : List Ent} {lv : Value} {L l' : List Ti} {b : Bool} {ps : List Pt} (hs : St M w0 w (⟨r, true, rdO lv 0 false⟩ :: ⟨b3, true, row [.int .i64 0, .int .i64 0] 28⟩ :: ⟨b2, true, row [.slice none 0 0] 35⟩ :: A))
  (hv : RdX A lv L.length (tisC L)) (hlim : L.length ≤ 1000000) (hx : ∀ t ∈ L, -2147483648 < t.x ∧ t.x ≤ 2147483647) (e : rF f (.shad []) (L, false) = some (ps, (l', b))) :
  Calls Tryz.prog 18 #[ptr r] w (GivesS (fun t : Tn => ptr t.b) (fun t => tnOk t ∧ tnP t = .mk 1 [] [] 0 0 ps) M w0 fun t => ⟨r, true, rdO lv (L.length - l'.length) b⟩ :: ((⟨b3, true, row [.int .i64 0, .int .i64 0] 28⟩ :: ⟨b2, true, row [.slice none 0 0] 35⟩ :: A) ++ rnH t)) := by
 have h0 : rdO lv 0 false = rdS lv L (L, false) := by
  show rdO lv 0 false = rdO lv (L.length - L.length) false
  rw [Nat.sub_self]
 have hT : TokE A r lv L := by
  refine ⟨hv, fun p hp e => ?_, hlim, hx⟩
  have h := hs.apart
  rw [List.pairwise_cons] at h
  have := h.1 p (List.Mem.tail _ (List.Mem.tail _ hp))
  simp [e] at this
 rw [h0] at hs
 exact ref_shader hf hs (UpdT.here (o' := rdS lv L (l', b))) hT (fun p hp => List.Mem.tail _ (List.Mem.tail _ (List.Mem.tail _ hp))) (List.suffix_refl L) (by dsimp only; rw [e]; rfl)
theorem parseR_ok {f : Nat} (hf0 : f + 20 ≤ 1000000000) {M : List Nat} {w0 w : World} {A : List Ent} {lv : Value} {L l' : List Ti} {o : Option (List Pt)} (hst : St M w0 w A) (hv : RdX A lv L.length (tisC L)) (hlim : L.length ≤ 1000000) (hg : ∀ t ∈ L, GdT t)
  (hxs : ∀ t ∈ L, -2147483648 < t.x ∧ t.x ≤ 2147483647) (e : pF f (.shad []) L = some (o, l')) : Calls Tryz.prog 10 #[lv] w (ParR L o l' M w0 A) := by
 have hag := pF_rF hg f (.shad []) L (List.suffix_refl L)
 have hsuf := (pF_good f (.shad []) L o l' e).1
 have hle := hsuf.length_le
 rw [e] at hag
 have hf := hf0
 obtain ⟨q, c, rfl⟩ := hv.len
 refine calls_of_W (vs := [.slice q L.length c]) Tryz.func10 rfl Tryz.ntmps10 (Nat.le_of_ble_eq_true rfl) hst.fromHere ?_
 simp only [argL]
 cases o with
 | none =>
  obtain ⟨ps, er⟩ : Bd l' (rF (f + 20) (.shad []) (L, false)) := hag
  unfold ParR
  dsimp only
  by_cases hlt : L.length - l'.length < L.length
  ·obtain ⟨b, off, c1, arr, et, fr, wr, he, hmm, hcc, hgt⟩ := hv.pos Zga
   cases he
   have g0 : ∀ (f : Nat) u, (tiC (L.getD (L.length - l'.length) ti0))[f]? = some u → ∀ o, o = off + ((L.length - l'.length) * 5 + f) → arr[o]? = some u := fun f u h => hgt _ _ (tisC_get hlt h)
   have he : endP L (L.length - l'.length) = (L.getD (L.length - l'.length) ti0).a := by unfold endP; rw [if_pos hlt]
   obtain ⟨t, ht⟩ : ∃ t, L.getD (L.length - l'.length) ti0 = t := ⟨_, rfl⟩
   rw [ht] at g0 he
   rw [he]
   repeat' (first | (apply gL; first | (apply Wl.ev rfl rfl; exact Zmz) | (refine lA 2 ?_; refine wl_alloc rfl rfl (zeroT rfl) ?_; intro b2) | (refine Zey ?_; refine wl_alloc rfl rfl (zeroT rfl) ?_; intro b3) | (refine lA 7 ?_; refine wl_alloc rfl rfl (zeroT rfl) ?_; intro b7) | (refine lB 12 ?_; refine wl_box rfl rfl rfl rfl ?_; intro r) | (refine Zgh ?_) | ((show Wl _ _ _ _ _ _ _ (⟨some 14, .call _, _, _, _, _⟩ :: _) _ _); refine wl_callS rfl rfl has18 rfl Zdy ?_; rintro tn ⟨hok, htp⟩) | apply Wl.nil) | (apply gQ; first | (apply Wq.ev rfl rfl; exact Zmz)) | (apply lW; first | apply W.seq | ((show W _ _ _ _ _ _ (.inl .ret :: _) _ _); refine W.retcc rfl rfl (agT rfl) Zd (szT rfl) rfl (agT rfl) Zd (szT rfl) ?_; intro w hs) | apply W.region | apply W.block | apply W.blk | (refine Zbh ?_) | (refine Zv ?_ ?_ <;> (intro h; try exact Za))))
   all_goals first | exact GivesS.ofC hst hs () trivial rfl Zcy | contradiction | exact Zz
  ·by_cases h0 : 0 < L.length
   ·obtain ⟨b, off, c1, arr, et, fr, wr, he, hmm, hcc, hgt⟩ := hv.pos Zga
    cases he
    have g0 : ∀ (f : Nat) u, (tiC (L.getD (L.length - 1) ti0))[f]? = some u → ∀ o, o = off + ((L.length - 1) * 5 + f) → arr[o]? = some u := fun f u h => hgt _ _ (tisC_get Zga h)
    have he : endP L (L.length - l'.length) = IntKind.i64.wrap ((L.getD (L.length - 1) ti0).a + ((L.getD (L.length - 1) ti0).t.length : Nat)) := by unfold endP; rw [if_neg hlt, if_pos h0]
    obtain ⟨t, ht⟩ : ∃ t, L.getD (L.length - 1) ti0 = t := ⟨_, rfl⟩
    rw [ht] at g0 he
    rw [he]
    repeat' (first | (apply gL; first | (apply Wl.ev rfl rfl; exact Zlu) | (refine lA 2 ?_; refine wl_alloc rfl rfl (zeroT rfl) ?_; intro b2) | (refine Zey ?_; refine wl_alloc rfl rfl (zeroT rfl) ?_; intro b3) | (refine lA 7 ?_; refine wl_alloc rfl rfl (zeroT rfl) ?_; intro b7) | (refine lB 12 ?_; refine wl_box rfl rfl rfl rfl ?_; intro r) | (refine Zgh ?_) | ((show Wl _ _ _ _ _ _ _ (⟨some 14, .call _, _, _, _, _⟩ :: _) _ _); refine wl_callS rfl rfl has18 rfl Zdy ?_; rintro tn ⟨hok, htp⟩) | apply Wl.nil) | (apply gQ; first | (apply Wq.ev rfl rfl; exact Zlu) | ((show Wq _ _ (Qt _ _ _ _) _ _ _ _ [] _ _); apply Wq.tail)) | (apply lW; first | apply W.seq | ((show W _ _ _ _ _ _ (.inl .ret :: _) _ _); refine W.retcc rfl rfl (agT rfl) Zd (szT rfl) rfl (agT rfl) Zd (szT rfl) ?_; intro w hs) | ((show W _ _ _ _ _ _ (.inl (.region 8 _ true) :: _) _ _); refine W.regionT 15 mixed Zl rfl rfl ?_) | apply W.region | apply W.block | apply W.blk | (refine Zbh ?_) | (refine Zv ?_ ?_ <;> (intro h; try exact Za))))
    all_goals first | exact GivesS.ofC hst hs () trivial rfl Zcy | contradiction | exact Zz
   ·have he : endP L (L.length - l'.length) = 0 := by unfold endP; rw [if_neg hlt, if_neg h0]
    rw [he]
    repeat' (first | (apply gL; first | (apply Wl.ev rfl rfl; exact Zev) | (refine lA 2 ?_; refine wl_alloc rfl rfl (zeroT rfl) ?_; intro b2) | (refine Zey ?_; refine wl_alloc rfl rfl (zeroT rfl) ?_; intro b3) | (refine lA 7 ?_; refine wl_alloc rfl rfl (zeroT rfl) ?_; intro b7) | (refine lB 12 ?_; refine wl_box rfl rfl rfl rfl ?_; intro r) | (refine Zgh ?_) | ((show Wl _ _ _ _ _ _ _ (⟨some 14, .call _, _, _, _, _⟩ :: _) _ _); refine wl_callS rfl rfl has18 rfl Zdy ?_; rintro tn ⟨hok, htp⟩) | apply Wl.nil) | (apply gQ; first | (apply Wq.ev rfl rfl; exact Zev)) | (apply lW; first | apply W.seq | ((show W _ _ _ _ _ _ (.inl .ret :: _) _ _); refine W.retcc rfl rfl (agT rfl) Zd (szT rfl) rfl (agT rfl) Zd (szT rfl) ?_; intro w hs) | apply W.region | apply W.block | apply W.blk | apply W.skip | (refine Zbh ?_) | (refine Zv ?_ ?_ <;> (intro h; try exact Za))))
    all_goals first | exact GivesS.ofC hst hs () trivial rfl Zcy | contradiction | exact Zz
 | some ps =>
  have er : rF (f + 20) (.shad []) (L, false) = some (ps, (l', false)) := hag
  have hcnt : cntL ps + 1 ≤ 1500000 := by
   have := (pF_cnt f (.shad []) L ps l' e).1
   simp only [baseN, cntL] at this
   omega
  unfold ParR FlatR
  obtain ⟨ns, sp, hp⟩ : ∃ ns sp, putP (.mk 1 [] [] 0 0 ps) 0 0 none = (ns, sp) := ⟨_, _, rfl⟩
  have hsp : (putP (.mk 1 [] [] 0 0 ps) 0 0 none).2 = sp := by rw [hp]
  dsimp only
  rw [hp]
  cases sp with
  | none =>
   repeat' (first | (apply gL; first | (apply Wl.ev rfl rfl; exact Zev) | (refine lA 2 ?_; refine wl_alloc rfl rfl (zeroT rfl) ?_; intro b2) | (refine Zey ?_; refine wl_alloc rfl rfl (zeroT rfl) ?_; intro b3) | (refine lA 7 ?_; refine wl_alloc rfl rfl (zeroT rfl) ?_; intro b7) | (refine lB 12 ?_; refine wl_box rfl rfl rfl rfl ?_; intro r) | (refine Zgh ?_) | ((show Wl _ _ _ _ _ _ _ (⟨some 14, .call _, _, _, _, _⟩ :: _) _ _); refine wl_callS rfl rfl has18 rfl Zdy ?_; rintro tn ⟨hok, htp⟩) | ((show Wl _ _ _ _ _ _ _ (⟨some 61, .call _, _, _, _, _⟩ :: _) _ _); refine wl_callS rfl rfl has19 rfl (fun w hs => fla_call (N := []) (o := none) (A := ⟨r, true, rdO (.slice q L.length c) (L.length - l'.length) false⟩ :: ⟨b3, true, row [.int .i64 0, .int .i64 0] 28⟩ :: ⟨b2, true, row [.slice none 0 0] 35⟩ :: (A ++ rnH tn)) (d := 0) (sp := none) (fla_ok tn) rfl hs Zdj (fun p hp => List.Mem.tail _ (List.Mem.tail _ (List.Mem.tail _ (List.mem_append_right _ hp)))) hok ⟨rfl, rfl⟩ (by rw [htp, cntP]; simp only [List.length_nil]; omega) Zf7 (by rw [htp, List.length_nil]; exact hsp)) ?_; rintro ⟨N2, o3⟩ ⟨h2, ho3, hN2⟩) | apply Wl.nil) | (apply gQ; first | (apply Wq.ev rfl rfl; exact Zev)) | (apply lW; first | apply W.seq | ((show W _ _ _ _ _ _ (.inl .ret :: _) _ _); refine W.retcc rfl rfl (agT rfl) Zd (szT rfl) rfl (agT rfl) Zd (szT rfl) ?_; intro w hs) | apply W.region | apply W.skip | (refine Zbc ?_)))
   all_goals first | contradiction | exact Zz | skip
   all_goals
    rw [htp] at h2
    exact GivesS.ofC hst hs (N2, o3) ⟨by have := h2 rfl; rw [List.length_nil, hp] at this; exact this, by simpa using ho3, hN2⟩ rfl Zft
  | some y =>
   repeat' (first | (apply gL; first | (apply Wl.ev rfl rfl; exact Zev) | (refine lA 2 ?_; refine wl_alloc rfl rfl (zeroT rfl) ?_; intro b2) | (refine Zey ?_; refine wl_alloc rfl rfl (zeroT rfl) ?_; intro b3) | (refine lA 7 ?_; refine wl_alloc rfl rfl (zeroT rfl) ?_; intro b7) | (refine lB 12 ?_; refine wl_box rfl rfl rfl rfl ?_; intro r) | (refine Zgh ?_) | ((show Wl _ _ _ _ _ _ _ (⟨some 14, .call _, _, _, _, _⟩ :: _) _ _); refine wl_callS rfl rfl has18 rfl Zdy ?_; rintro tn ⟨hok, htp⟩) | ((show Wl _ _ _ _ _ _ _ (⟨some 61, .call _, _, _, _, _⟩ :: _) _ _); refine wl_callS rfl rfl has19 rfl (fun w hs => fla_call (N := []) (o := none) (A := ⟨r, true, rdO (.slice q L.length c) (L.length - l'.length) false⟩ :: ⟨b3, true, row [.int .i64 0, .int .i64 0] 28⟩ :: ⟨b2, true, row [.slice none 0 0] 35⟩ :: (A ++ rnH tn)) (d := 0) (sp := some y) (fla_ok tn) rfl hs Zdj (fun p hp => List.Mem.tail _ (List.Mem.tail _ (List.Mem.tail _ (List.mem_append_right _ hp)))) hok ⟨rfl, rfl⟩ (by rw [htp, cntP]; simp only [List.length_nil]; omega) Zf7 (by rw [htp, List.length_nil]; exact hsp)) ?_; rintro ⟨N2, o3⟩ ⟨h2, ho3, hN2⟩) | apply Wl.nil) | (apply gQ; first | (apply Wq.ev rfl rfl; exact Zev)) | (apply lW; first | apply W.seq | ((show W _ _ _ _ _ _ (.inl .ret :: _) _ _); refine W.retcc rfl rfl (agT rfl) Zd (szT rfl) rfl (agT rfl) Zd (szT rfl) ?_; intro w hs) | apply W.region | apply W.skip | (refine Zbh ?_) | (refine Zbc ?_)))
   all_goals first | contradiction | exact Zz | skip
   all_goals exact GivesS.ofC hst hs () trivial rfl Zft
end Go.Proofs.YtbinaeemcidicaaGreat
