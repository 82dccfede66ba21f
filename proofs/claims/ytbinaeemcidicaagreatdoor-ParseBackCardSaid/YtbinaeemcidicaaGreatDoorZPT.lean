/- Walks: parts with commas between them. No condition. -/
import Derived.Test.YtbinaeemcidicaaGreatDoorZPF
import Derived.Test.YtbinaeemcidicaaGreatDoorZEQ
set_option maxRecDepth 100000
set_option maxHeartbeats 16000000
namespace Go.Proofs.YtbinaeemcidicaaGreatDoor
open Go.PB Go.RowKit
attribute [local irreducible] Go.Calls
def OneC (one : List Ti → Rp) (fv : Value) (r : Nat) (R : List Ent) : Prop := ∃ F bs cs, fv = fnV F bs cs ∧ Has Tryz.prog F ∧ (∀ l o l', one l = some (o, l') → l' <:+ l) ∧
 ∀ {M : List Nat} {w0 w : World} {H : List Ent} {K : List Ent → List Ent} {TR : List Ent} {a : Nat} {lv : Value} {L l l' : List Ti} {o : Option (List Pt)}, St M w0 w H → (∀ e ∈ R, e ∈ H) → one l = some (o, l') → At L a l → UpdT H r (rdP lv a) (rdP lv (L.length - l'.length)) K → TokE TR r lv L → (∀ p ∈ TR, p ∈ H) →
  Calls Tryz.prog F (bs ++ [] ++ cs).toArray w (NodeR o M w0 K)
def lsP (one : List Ti → Rp) : Nat → List Pt → List Ti → Rp
 | 0, _, _ => none
 | g + 1, acc, l => bndP (one l) fun ps l => mayP [[44]] l (fun _ l => lsP one g (acc ++ [hdP ps]) l) (tkP (isA [[41]]) l fun _ l => okP (acc ++ [hdP ps]) l)
def listP (one : List Ti → Rp) (g : Nat) (l : List Ti) : Rp := mayP [[41]] l (fun _ l => okP [] l) (lsP one g [] l)
def ListR (o : Option (List Pt)) (M : List Nat) (w0 : World) (K : List Ent → List Ent) : Ending → World → Prop := match o with
 | some ps => GivesS (fun x : List Tn × Ow => ownV x.1.length x.2) (fun x => tnsOk x.1 ∧ ownOk x.1.length 1 (ptrs x.1) x.2 ∧ tnsP x.1 = ps) M w0 (fun x => K (ownH 77 x.2 ++ tnsH x.1))
 | none => BadS wrongC M w0 (K [])
theorem bndR_cases {r : Rp} {l' : List Ti} {k : List Pt → List Ti → Rp} {o : Option (List Pt)} (h : bndP r k = some (o, l')) : (r = some (none, l') ∧ o = none) ∨ ∃ ps l1, r = some (some ps, l1) ∧ k ps l1 = some (o, l') := by
 unfold bndP at h
 cases e : r with
 | none => rw [e] at h; cases h
 | some y =>
  obtain ⟨q, l3⟩ := y
  rw [e] at h
  cases q with
  | none => cases h; exact .inl ⟨rfl, rfl⟩
  | some ps => exact .inr ⟨ps, l3, rfl, h⟩
section
variable {F : FuncId} {bs cs : List Value} {r : Nat} {R : List Ent} {one : List Ti → Rp}
abbrev OneK (one : List Ti → Rp) (F : FuncId) (bs cs : List Value) (r : Nat) (R : List Ent) : Prop := ∀ {M : List Nat} {w0 w : World} {H : List Ent} {K : List Ent → List Ent} {TR : List Ent} {a : Nat} {lv : Value} {L l l' : List Ti} {o : Option (List Pt)}, St M w0 w H → (∀ e ∈ R, e ∈ H) → one l = some (o, l') → At L a l → UpdT H r (rdP lv a) (rdP lv (L.length - l'.length)) K → TokE TR r lv L → (∀ p ∈ TR, p ∈ H) →
  Calls Tryz.prog F (bs ++ [] ++ cs).toArray w (NodeR o M w0 K)
theorem one_ok (ih : OneK one F bs cs r R) {M : List Nat} {w0 w : World} {H : List Ent} {K : List Ent → List Ent} {TR : List Ent} {a : Nat} {lv : Value} {L l l' : List Ti} {ps : List Pt} (hst : St M w0 w H) (hR : ∀ e ∈ R, e ∈ H) (e : one l = some (some ps, l')) (hl : At L a l) (hu : UpdT H r (rdP lv a) (rdP lv (L.length - l'.length)) K) (hT : TokE TR r lv L) (hm : ∀ p ∈ TR, p ∈ H) :
  Calls Tryz.prog F (bs ++ [] ++ cs).toArray w (GivesS (fun t : Tn => ptr t.b) (fun t => tnOk t ∧ tnP t = hdP ps) M w0 (fun t => K (tnH t))) := ih hst hR e hl hu hT hm
theorem one_bad (ih : OneK one F bs cs r R) {M : List Nat} {w0 w : World} {H : List Ent} {K : List Ent → List Ent} {TR : List Ent} {a : Nat} {lv : Value} {L l l' : List Ti} (hst : St M w0 w H) (hR : ∀ e ∈ R, e ∈ H) (e : one l = some (none, l')) (hl : At L a l) (hu : UpdT H r (rdP lv a) (rdP lv (L.length - l'.length)) K) (hT : TokE TR r lv L) (hm : ∀ p ∈ TR, p ∈ H) :
  Calls Tryz.prog F (bs ++ [] ++ cs).toArray w (BadS wrongC M w0 (K [])) := ih hst hR e hl hu hT hm
end
theorem list_ok {one : List Ti → Rp} {g0 : Nat} {R : List Ent} {fv : Value} {r : Nat} (ho : OneC one fv r R) {M : List Nat} {w0 w : World} {H : List Ent} {K : List Ent → List Ent} {TR : List Ent} {a : Nat} {lv : Value} {L l l' : List Ti} {o : Option (List Pt)} (hst : St M w0 w H) (hR : ∀ e ∈ R, e ∈ H) (hRr : ∀ e ∈ R, e ≠ ⟨r, true, rdP lv a⟩)
  (e : listP one g0 l = some (o, l')) (hl : At L a l) (hu : UpdT H r (rdP lv a) (rdP lv (L.length - l'.length)) K) (hT : TokE TR r lv L) (hm : ∀ p ∈ TR, p ∈ H) : Calls Tryz.prog 95 #[ptr r, fv] w (ListR o M w0 K) := by
 (obtain ⟨A, p1, p2⟩ := hu.front; have hTA : ∀ e ∈ TR, e ∈ A := fun e he => mem_front p1 (hm e he) (hT.2.1 e he); have hst1 := hst.perm p1; have hlim := hT.2.2.1)
 have hRA : ∀ e ∈ R, e ∈ A := fun e he => mem_frontE p1 (hR e he) (hRr e he)
 obtain ⟨F, bs, cs, rfl, hh, hsuf, hc⟩ := ho
 have hc : OneK one F bs cs r R := hc
 unfold listP at e
 rcases may_cases [[41]] l with ⟨t, l2, rfl, c⟩ | c
 ·rw [mayP_yes c] at e
  have a2 := hl.next
  cases e
  have hlen : a + 1 = L.length - l'.length := a2.len
  rw [← hlen] at p2
  (refine Zfx ?_; simp only [argL])
  repeat' (first | (apply gL; first | (apply Wl.ev rfl rfl; exact Zev) | (refine Zf8 ?_) | (refine lC 13 98 ?_; first | (refine wl_callS rfl rfl has98 rfl Zmc ?_; intro q hq; clear hq q) | (refine wl_callS rfl rfl has98 rfl Zmd ?_; intro q hq; clear hq q)) | apply Wl.nil | (refine Zbd ?_; intro b) | (apply wl_buildSlice rfl rfl (slT rfl) (szT rfl) (zeroT rfl) rfl Zf6 rfl; exact Zt; intro b)) | (apply gQ; first | (apply Wq.ev rfl rfl; exact Zev)) | (apply lW; first | apply W.seq | apply W.region | (refine Zbk ?_) | (refine Zba ?_; intro w hs)))
  all_goals first | exact GivesS.ofC hst1 hs ([], none) ⟨by rw [tnsOk]; trivial, ⟨rfl, rfl⟩, by rw [tnsP]⟩ rfl Zeo
 rw [mayP_no c] at e
 (refine Zfx ?_; simp only [argL])
 repeat' (first | (apply gL; first | (apply Wl.ev rfl rfl; exact Zev) | (refine Zf8 ?_) | (refine lC 13 98 ?_; first | (refine wl_callS rfl rfl has98 rfl Zmc ?_; intro q hq; clear hq q) | (refine wl_callS rfl rfl has98 rfl Zmd ?_; intro q hq; clear hq q)) | apply Wl.nil | (refine Zbd ?_; intro b) | (apply wl_buildSlice rfl rfl (slT rfl) (szT rfl) (zeroT rfl) rfl Zf6 rfl; exact Zt; intro b)) | (apply gQ; first | (apply Wq.ev rfl rfl; exact Zev)) | (apply lW; first | apply W.seq | (refine W.reC (H' := ⟨r, true, rdP lv (L.length - l.length)⟩ :: ((A ++ tnsH []) ++ ownH 77 none)) (by rw [← hl.len]; (intro e; simp only [cnt_cons, ownH, tnsH, List.append_nil]; omega)) ?_; refine W.loop (X := Nat × List Tn × Ow × List Ti) (fun x => [(0, ptr r), (1, fnV F bs cs), (5, ownV x.2.1.length x.2.2.1)]) (fun x => ⟨r, true, rdP lv (L.length - x.2.2.2.length)⟩ :: ((A ++ tnsH x.2.1) ++ ownH 77 x.2.2.1)) (fun x => tnsOk x.2.1 ∧ ownOk x.2.1.length 1 (ptrs x.2.1) x.2.2.1 ∧ x.2.1.length + x.2.2.2.length ≤ L.length ∧ At L (L.length - x.2.2.2.length) x.2.2.2 ∧ lsP one x.1 (tnsP x.2.1) x.2.2.2 = some (o, l')) (fun x => x.1) (g0, [], none, l) ⟨by rw [tnsOk]; trivial, ⟨rfl, rfl⟩, by have := hl.le; simp only [List.length_nil]; omega, by rw [← hl.len]; exact hl, by rw [tnsP]; exact e⟩ Zn (List.Sublist.refl _) ?_) | apply W.region | apply W.block | apply W.skip | (refine Zbg ?_)))
 rintro ⟨g, ts, o1, l5⟩ ⟨hok, hown, hlen5, at5, e⟩
 dsimp only at hok hown hlen5 at5 e ⊢
 cases g with
 | zero => rw [lsP] at e; cases e
 | succ g =>
 rw [lsP] at e
 rcases bndR_cases e with ⟨e1, rfl⟩ | ⟨ps, l1, e1, e⟩
 ·repeat' (first | (apply gL; first | (apply Wl.ev rfl rfl; exact Zev) | (refine lV 20 ?_; first | (refine Zke ?_; rintro t ⟨hok1, hp1⟩) | (refine Zkg ?_; refine bad_end ?_; intro w hs))) | (apply gQ; first | (apply Wq.ev rfl rfl; exact Zev)) | (apply lW; first | apply W.seq | apply W.region | apply W.block))
  all_goals first | exact BadS.ofC hst1 hs Zo
 have hsf := hsuf _ _ _ e1
 have a1 := at5.suf hsf
 have hle := hsf.length_le
 have hl5 : l5.length ≤ L.length := by omega
 rcases may_cases [[44]] l1 with ⟨t6, l6, rfl, c6⟩ | c6
 ·rw [mayP_yes c6] at e
  have a2 := a1.next
  have hlen : L.length - (t6 :: l6).length + 1 = L.length - l6.length := a2.len
  repeat' (first | (apply gL; first | (apply Wl.ev rfl rfl; exact Zev) | (refine Zf8 ?_) | (refine lC 26 98 ?_; first | (refine Zia ?_; intro q hq; clear hq q) | (refine Zic ?_; intro q hq; clear hq q)) | (refine lV 20 ?_; first | (refine Zke ?_; rintro t ⟨hok1, hp1⟩) | (refine Zkg ?_; refine bad_end ?_; intro w hs)) | ((show Wl _ _ _ _ _ _ _ (⟨some 22, .call ⟨.builtin .append, _, _⟩, _, _, _, _⟩ :: _) _ _); refine Wl.reC (H' := ⟨b, true, row [ptr t.b] 77⟩ :: ⟨r, true, rdP lv (L.length - (t6 :: l6).length)⟩ :: ((A ++ tnsH (ts ++ [t])) ++ ownH 77 o1)) Zch ?_; refine wl_append_own (m := ts.length) (k := 1) (o := o1) (xs := ptrs ts) (news := [ptr t.b]) rfl rfl (slT rfl) (szT rfl) (byT rfl) (zeroT rfl) rfl rfl rfl hown Zd rfl (fun j v h => by simpa using h) Zc0 Zf7 Zcu Zf7 Zbw ?_; intro o2 hown2) | apply Wl.nil | (refine Zbd ?_; intro b) | (apply wl_buildSlice rfl rfl (slT rfl) (szT rfl) (zeroT rfl) rfl Zf6 rfl; exact Zt; intro b)) | (apply gQ; first | (apply Wq.ev rfl rfl; exact Zev)) | (apply lW; first | apply W.seq | apply W.region | apply W.block | apply W.blk | apply W.skip | (refine Zbg ?_)))
  refine W.reC (H' := ⟨r, true, rdP lv (L.length - l6.length)⟩ :: ((A ++ tnsH (ts ++ [t])) ++ ownH 77 o2)) (by rw [← hlen]; ((try intro e); simp only [List.count_append, cnt_cons, ownH, tnsH, tnsH_app, List.append_nil]; omega)) ?_
  exact W.again (g, ts ++ [t], o2, l6) ⟨tnsOk_app hok (tnsOk1 hok1), by simpa using hown2, by simp only [List.length_append, List.length_cons, List.length_nil] at *; omega, by rw [← hlen]; exact a2, by rw [tnsP_app, tnsP1, hp1]; exact e⟩ Ze6 (SubL.cons rfl (SubL.cons rfl (SubL.cons (by dsimp only; rw [List.length_append]; rfl) SubL.nil))) (List.Sublist.refl _)
 ·rw [mayP_no c6] at e
  rcases tk_cases (isA [[41]]) l1 with ⟨t7, l7, rfl, c7⟩ | c7
  ·rw [tkP_ok c7] at e
   have a2 := a1.next
   cases e
   have hlen : L.length - (t7 :: l').length + 1 = L.length - l'.length := a2.len
   rw [← hlen] at p2
   repeat' (first | (apply gL; first | (apply Wl.ev rfl rfl; exact Zev) | (refine Zf8 ?_) | (refine lC 26 98 ?_; first | (refine Zia ?_; intro q hq; clear hq q) | (refine Zic ?_; intro q hq; clear hq q)) | (refine lV 20 ?_; first | (refine Zke ?_; rintro t ⟨hok1, hp1⟩) | (refine Zkg ?_; refine bad_end ?_; intro w hs)) | ((show Wl _ _ _ _ _ _ _ (⟨some 22, .call ⟨.builtin .append, _, _⟩, _, _, _, _⟩ :: _) _ _); refine Wl.reC (H' := ⟨b, true, row [ptr t.b] 77⟩ :: ⟨r, true, rdP lv (L.length - (t7 :: l').length)⟩ :: ((A ++ tnsH (ts ++ [t])) ++ ownH 77 o1)) Zch ?_; refine wl_append_own (m := ts.length) (k := 1) (o := o1) (xs := ptrs ts) (news := [ptr t.b]) rfl rfl (slT rfl) (szT rfl) (byT rfl) (zeroT rfl) rfl rfl rfl hown Zd rfl (fun j v h => by simpa using h) Zc0 Zf7 Zcu Zf7 Zbw ?_; intro o2 hown2) | (refine lC 32 94 ?_; first | (refine Zho ?_; intro q hq; clear hq q) | (refine Zhp ?_; (first | refine bad_end ?_ | refine bad_endM ?_); intro w hs)) | apply Wl.nil | (refine Zbd ?_; intro b) | (apply wl_buildSlice rfl rfl (slT rfl) (szT rfl) (zeroT rfl) rfl Zf6 rfl; exact Zt; intro b)) | (apply gQ; first | (apply Wq.ev rfl rfl; exact Zev)) | (apply lW; first | apply W.seq | apply W.region | apply W.block | (refine Zbk ?_) | (refine Zba ?_; intro w hs)))
   all_goals first | exact GivesS.ofC hst1 hs (ts ++ [t], o2) ⟨tnsOk_app hok (tnsOk1 hok1), by simpa using hown2, by rw [tnsP_app, tnsP1, hp1]⟩ Zgh Zeo
  ·rw [tkP_bad c7] at e
   cases e
   repeat' (first | (apply gL; first | (apply Wl.ev rfl rfl; exact Zev) | (refine Zf8 ?_) | (refine lC 26 98 ?_; first | (refine Zia ?_; intro q hq; clear hq q) | (refine Zic ?_; intro q hq; clear hq q)) | (refine lV 20 ?_; first | (refine Zke ?_; rintro t ⟨hok1, hp1⟩) | (refine Zkg ?_; refine bad_end ?_; intro w hs)) | ((show Wl _ _ _ _ _ _ _ (⟨some 22, .call ⟨.builtin .append, _, _⟩, _, _, _, _⟩ :: _) _ _); refine Wl.reC (H' := ⟨b, true, row [ptr t.b] 77⟩ :: ⟨r, true, rdP lv (L.length - l'.length)⟩ :: ((A ++ tnsH (ts ++ [t])) ++ ownH 77 o1)) Zch ?_; refine wl_append_own (m := ts.length) (k := 1) (o := o1) (xs := ptrs ts) (news := [ptr t.b]) rfl rfl (slT rfl) (szT rfl) (byT rfl) (zeroT rfl) rfl rfl rfl hown Zd rfl (fun j v h => by simpa using h) Zc0 Zf7 Zcu Zf7 Zbw ?_; intro o2 hown2) | (refine lC 32 94 ?_; first | (refine Zho ?_; intro q hq; clear hq q) | (refine Zhp ?_; (first | refine bad_end ?_ | refine bad_endM ?_); intro w hs)) | apply Wl.nil | (refine Zbd ?_; intro b) | (apply wl_buildSlice rfl rfl (slT rfl) (szT rfl) (zeroT rfl) rfl Zf6 rfl; exact Zt; intro b)) | (apply gQ; first | (apply Wq.ev rfl rfl; exact Zev)) | (apply lW; first | apply W.seq | apply W.region | apply W.block | (refine Zbk ?_)))
   all_goals first | exact BadS.ofC hst1 hs Zo
theorem list_yes {one : List Ti → Rp} {g0 : Nat} {R : List Ent} {fv : Value} {r : Nat} (ho : OneC one fv r R) {M : List Nat} {w0 w : World} {H : List Ent} {K : List Ent → List Ent} {TR : List Ent} {a : Nat} {lv : Value} {L l l' : List Ti} {ps : List Pt} (hst : St M w0 w H)
  (e : listP one g0 l = some (some ps, l')) (hl : At L a l) (hR : ∀ e ∈ R, e ∈ H) (hRr : ∀ e ∈ R, e ≠ ⟨r, true, rdP lv a⟩) (hu : UpdT H r (rdP lv a) (rdP lv (L.length - l'.length)) K) (hT : TokE TR r lv L) (hm : ∀ p ∈ TR, p ∈ H) :
  Calls Tryz.prog 95 #[ptr r, fv] w (GivesS (fun x : List Tn × Ow => ownV x.1.length x.2) (fun x => tnsOk x.1 ∧ ownOk x.1.length 1 (ptrs x.1) x.2 ∧ tnsP x.1 = ps) M w0 (fun x => K (ownH 77 x.2 ++ tnsH x.1))) := list_ok ho hst hR hRr e hl hu hT hm
theorem list_no {one : List Ti → Rp} {g0 : Nat} {R : List Ent} {fv : Value} {r : Nat} (ho : OneC one fv r R) {M : List Nat} {w0 w : World} {H : List Ent} {K : List Ent → List Ent} {TR : List Ent} {a : Nat} {lv : Value} {L l l' : List Ti} (hst : St M w0 w H)
  (e : listP one g0 l = some (none, l')) (hl : At L a l) (hR : ∀ e ∈ R, e ∈ H) (hRr : ∀ e ∈ R, e ≠ ⟨r, true, rdP lv a⟩) (hu : UpdT H r (rdP lv a) (rdP lv (L.length - l'.length)) K) (hT : TokE TR r lv L) (hm : ∀ p ∈ TR, p ∈ H) :
  Calls Tryz.prog 95 #[ptr r, fv] w (BadS wrongC M w0 (K [])) := list_ok ho hst hR hRr e hl hu hT hm
theorem args_ls {f : Nat} : ∀ {g : Nat} {acc : List Pt} {l : List Ti} {x}, g ≤ f + 1 → pF g (.args acc) l = some x → lsP (pF f .expr) g acc l = some x
 | 0, _, _, _, _, h => by rw [pF] at h; cases h
 | g + 1, acc, l, x, hg, h => by
  rw [pF] at h
  rw [lsP]
  exact bnd_mono (fun x h => pF_mono Zf7 h) (fun ps l x h => may_mono (fun t l x h => args_ls Zf7 h) (fun x h => h) h) h
theorem list_ls {f : Nat} {l : List Ti} {x} (h : pF f .list l = some x) : ∃ g, listP (pF f .expr) g l = some x := by
 cases f with
 | zero => rw [pF] at h; cases h
 | succ f =>
  rw [pF] at h
  exact ⟨f, may_mono (fun t l x h => h) (fun x h => args_ls Zf7 h) h⟩
theorem expr_one {f : Nat} (ih : NodeC f .expr 99 []) (r : Nat) : OneC (pF f .expr) (fnV 99 [ptr r] []) r [] :=
 ⟨_, _, _, rfl, has99, fun l o l' e => (pF_good f .expr l o l' e).1, fun hst _ e hl hu hT hm => ih hst hu hT hm hl e⟩
end Go.Proofs.YtbinaeemcidicaaGreatDoor
