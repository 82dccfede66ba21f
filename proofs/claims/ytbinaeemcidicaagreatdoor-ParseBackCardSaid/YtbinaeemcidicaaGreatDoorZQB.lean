/- Walks: a parameter. No condition. -/
import Derived.Test.YtbinaeemcidicaaGreatDoorZPZ
set_option maxRecDepth 100000
set_option maxHeartbeats 16000000
namespace Go.Proofs.YtbinaeemcidicaaGreatDoor
open Go.PB Go.RowKit
attribute [local irreducible] Go.Calls
def parP (l : List Ti) : Rp := tkP typedT l fun w l => tkP namedT l fun t l => okP [.mk 5 w.t t.t 0 t.a []] l
theorem par_suf (l : List Ti) (o : Option (List Pt)) (l' : List Ti) (e : parP l = some (o, l')) : l' <:+ l := by
 unfold parP at e
 rcases tk_cases typedT l with ⟨t1, l1, rfl, c1⟩ | c1
 ·rw [tkP_ok c1] at e
  rcases tk_cases namedT l1 with ⟨t2, l2, rfl, c2⟩ | c2
  ·rw [tkP_ok c2] at e
   cases e
   exact (List.suffix_cons t2 _).trans (List.suffix_cons t1 _)
  ·rw [tkP_bad c2] at e
   cases e
   exact List.suffix_cons t1 _
 ·rw [tkP_bad c1] at e
  cases e
  exact List.suffix_refl _
theorem parL_ls : ∀ {g : Nat} {acc : List Pt} {l : List Ti} {x}, pF g (.parL acc) l = some x → lsP parP g acc l = some x
 | 0, _, _, _, h => by rw [pF] at h; cases h
 | g + 1, acc, l, x, h => by
  rw [pF] at h
  rw [lsP]
  unfold parP
  rcases tk_cases typedT l with ⟨t1, l1, rfl, c1⟩ | c1
  ·rw [tkP_ok c1] at h ⊢
   rcases tk_cases namedT l1 with ⟨t2, l2, rfl, c2⟩ | c2
   ·rw [tkP_ok c2] at h ⊢
    exact may_mono (fun t l x h => parL_ls h) (fun x h => h) h
   ·rw [tkP_bad c2] at h ⊢
    exact h
  ·rw [tkP_bad c1] at h ⊢
   exact h
theorem pars_ls {f : Nat} {l : List Ti} {x} (h : pF f .pars l = some x) : ∃ g, listP parP g l = some x := by
 cases f with
 | zero => rw [pF] at h; cases h
 | succ f =>
  rw [pF] at h
  exact ⟨f, may_mono (fun t l x h => h) (fun x h => parL_ls h) h⟩
theorem par_one (b2 r : Nat) : OneC parP (fnV 96 [] [ptr b2]) r [⟨b2, true, row [ptr r] 73⟩] := by
 refine ⟨_, _, _, rfl, has96, par_suf, ?_⟩
 intro M w0 w H K TR a lv L l l' o hst hR e hl hu hT hm
 (obtain ⟨A, p1, p2⟩ := hu.front; have hTA : ∀ e ∈ TR, e ∈ A := fun e he => mem_front p1 (hm e he) (hT.2.1 e he); have hst1 := hst.perm p1; have hlim := hT.2.2.1)
 have hb2 : (⟨b2, true, row [ptr r] 73⟩ : Ent) ∈ A := mem_frontE p1 (hR _ (List.Mem.head _)) (fun e => by cases e)
 unfold parP at e
 rcases tk_cases typedT l with ⟨t1, l1, rfl, c1⟩ | c1
 ·rw [tkP_ok c1] at e
  have a1 := hl.next
  rcases tk_cases namedT l1 with ⟨t2, l2, rfl, c2⟩ | c2
  ·rw [tkP_ok c2] at e
   have a2 := a1.next
   cases e
   rw [← a2.len] at p2
   (refine Zen ?_; simp only [argL])
   repeat' (first | (apply gL; first | (apply Wl.ev rfl rfl; exact Zci) | (refine Zf8 ?_) | (refine lC 6 57 ?_; first | (refine Zi0 ?_; intro q hq; clear hq q) | (refine Zi3 ?_; (first | refine bad_end ?_ | refine bad_endM ?_); intro w hs)) | (refine lC 8 57 ?_; first | (refine Zhu ?_; intro q hq; clear hq q) | (refine Zhv ?_; (first | refine bad_end ?_ | refine bad_endM ?_); intro w hs)) | (refine lC 12 93 ?_; refine wl_callS rfl rfl has93 rfl Zbm ?_; intro bn hq; clear hq) | apply Wl.nil | (refine Wl.skip0 rfl ?_) | (refine Zbd ?_; intro b) | (refine Zgb ?_) | (refine Zf9 ?_; try simp only [List.set])) | (apply gQ; first | (apply Wq.ev rfl rfl; exact Zci) | apply Wq.nil) | (apply lW; first | apply W.seq | (refine Zgf ?_) | apply W.region | apply W.block | apply W.blk | apply W.skip | apply W.scp | apply W.label | apply W.scope0 | (refine Zcm ?_) | (refine Zbk ?_) | (refine Zbg ?_) | (refine Zz ?_ ?_ <;> (intro h; try exact Zg)) | (refine Zfs ?_ ?_ <;> (intro h; try exact Zca)) | (refine Zba ?_; intro w hs)))
   all_goals first | (simp only [row_nd] at hs; exact node_leaf hst1 hs Zo)
  ·rw [tkP_bad c2] at e
   cases e
   rw [← a1.len] at p2
   (refine Zen ?_; simp only [argL])
   repeat' (first | (apply gL; first | (apply Wl.ev rfl rfl; exact Zci) | (refine Zf8 ?_) | (refine lC 6 57 ?_; first | (refine Zi0 ?_; intro q hq; clear hq q) | (refine Zi3 ?_; (first | refine bad_end ?_ | refine bad_endM ?_); intro w hs)) | (refine lC 8 57 ?_; first | (refine Zhu ?_; intro q hq; clear hq q) | (refine Zhv ?_; (first | refine bad_end ?_ | refine bad_endM ?_); intro w hs)) | apply Wl.nil | (refine Wl.skip0 rfl ?_) | (refine Zbd ?_; intro b) | (refine Zgb ?_) | (refine Zf9 ?_; try simp only [List.set])) | (apply gQ; first | (apply Wq.ev rfl rfl; exact Zci) | apply Wq.nil) | (apply lW; first | apply W.seq | (refine Zgf ?_) | apply W.region | apply W.block | apply W.blk | apply W.skip | apply W.scp | apply W.label | apply W.scope0 | (refine Zcm ?_) | (refine Zbk ?_) | (refine Zbg ?_) | (refine Zz ?_ ?_ <;> (intro h; try exact Zg)) | (refine Zfs ?_ ?_ <;> (intro h; try exact Zca)) | (refine Zba ?_; intro w hs)))
   all_goals first | exact BadS.ofC hst1 hs Zo
 ·rw [tkP_bad c1] at e
  cases e
  rw [← hl.len] at p2
  (refine Zen ?_; simp only [argL])
  repeat' (first | (apply gL; first | (apply Wl.ev rfl rfl; exact Zci) | (refine Zf8 ?_) | (refine lC 6 57 ?_; first | (refine Zi0 ?_; intro q hq; clear hq q) | (refine Zi3 ?_; (first | refine bad_end ?_ | refine bad_endM ?_); intro w hs)) | apply Wl.nil | (refine Wl.skip0 rfl ?_) | (refine Zbd ?_; intro b) | (refine Zgb ?_) | (refine Zf9 ?_; try simp only [List.set])) | (apply gQ; first | (apply Wq.ev rfl rfl; exact Zci) | apply Wq.nil) | (apply lW; first | apply W.seq | (refine Zgf ?_) | apply W.region | apply W.block | apply W.blk | apply W.skip | apply W.scp | apply W.label | apply W.scope0 | (refine Zcm ?_) | (refine Zbk ?_) | (refine Zbg ?_) | (refine Zz ?_ ?_ <;> (intro h; try exact Zg)) | (refine Zfs ?_ ?_ <;> (intro h; try exact Zca)) | (refine Zba ?_; intro w hs)))
  all_goals first | exact BadS.ofC hst1 hs Zo
end Go.Proofs.YtbinaeemcidicaaGreatDoor
namespace Go.Proofs.YtbinaeemcidicaaGreatDoor
open Go.PB Go.RowKit
attribute [local irreducible] Go.Calls
theorem ls_len {one : List Ti → Rp} (hs : ∀ l o l', one l = some (o, l') → l' <:+ l) : ∀ {g : Nat} {acc : List Pt} {l l' : List Ti} {ps : List Pt}, lsP one g acc l = some (some ps, l') → ps.length + l'.length ≤ acc.length + l.length
 | 0, _, _, _, _, h => by rw [lsP] at h; cases h
 | g + 1, acc, l, l', ps, h => by
  rw [lsP] at h
  rcases bndR_cases h with ⟨e1, h2⟩ | ⟨qs, l1, e1, h⟩
  ·cases h2
  have h1 := (hs _ _ _ e1).length_le
  rcases may_cases [[44]] l1 with ⟨t6, l6, rfl, c6⟩ | c6
  ·rw [mayP_yes c6] at h
   have := ls_len hs h
   simp only [List.length_append, List.length_cons, List.length_nil] at *
   omega
  ·rw [mayP_no c6] at h
   rcases tk_cases (isA [[41]]) l1 with ⟨t7, l7, rfl, c7⟩ | c7
   ·rw [tkP_ok c7] at h
    cases h
    simp only [List.length_append, List.length_cons, List.length_nil] at *
    omega
   ·rw [tkP_bad c7] at h
    cases h
theorem list_len {one : List Ti → Rp} (hs : ∀ l o l', one l = some (o, l') → l' <:+ l) {g : Nat} {l l' : List Ti} {ps : List Pt} (h : listP one g l = some (some ps, l')) : ps.length + l'.length ≤ l.length := by
 unfold listP at h
 rcases may_cases [[41]] l with ⟨t, l2, rfl, c⟩ | c
 ·rw [mayP_yes c] at h
  cases h
  simp
 ·rw [mayP_no c] at h
  simpa using ls_len hs h
theorem tnsP_len (l : List Tn) : (tnsP l).length = l.length := by rw [tnsP_map, List.length_map]
abbrev fnc (bn : Nat) (w ty : List UInt8) (a : Int) (n : Nat) (o : Ow) : Ent := ⟨bn, true, row [.int .i64 4, st ty, st w, .int .i32 0, .slice none 0 0, .int .i64 a, ownV n o] 104⟩
theorem mem_oneB {p : Ent} {H : List Ent} (h : p ∈ H) : ∀ e ∈ [p], e ∈ H := fun e he => by
 rw [List.mem_singleton.1 he]
 exact h
theorem func_step {f : Nat} (ihb : NodeC f .blk 97 []) (t0 : Ti) : NodeC (f + 1) (.func t0) 61 [tiV t0] := by
 intro M w0 w H K TR r a lv L l l' o hst hu hT hm hl e
 (obtain ⟨A, p1, p2⟩ := hu.front; have hTA : ∀ e ∈ TR, e ∈ A := fun e he => mem_front p1 (hm e he) (hT.2.1 e he); have hst1 := hst.perm p1; have hlim := hT.2.2.1)
 rw [pF] at e
 rcases tk_cases namedT l with ⟨t, l1, rfl, c1⟩ | c1
 rotate_left
 rw [tkP_bad c1] at e
 cases e
 rw [← hl.len] at p2
 rotate_right
 rw [tkP_ok c1] at e
 have a1 := hl.next
 rcases tk_cases (isA [[40]]) l1 with ⟨t2, l2, rfl, c2⟩ | c2
 rotate_left
 rw [tkP_bad c2] at e
 cases e
 rw [← a1.len] at p2
 rotate_right
 rw [tkP_ok c2] at e
 have a2 := a1.next
 rcases bnd_cases e with ⟨e3, rfl⟩ | ⟨ps, l3, e3, e⟩
 obtain ⟨g, e3⟩ := pars_ls e3
 rotate_left
 have a3 := a2.step e3
 obtain ⟨g, e3⟩ := pars_ls e3
 have hl3 := list_len par_suf e3
 have hl2 := a2.le
 rcases bnd_cases e with ⟨e4, rfl⟩ | ⟨bs, l4, e4, e⟩
 rotate_left
 cases e
 ·(refine Zf2 ?_; simp only [argL])
  repeat' (first | (apply gL; first | (apply Wl.ev rfl rfl; exact Zu) | (refine lB 2 ?_; refine wl_box rfl rfl rfl rfl ?_; intro b2) | (refine Zfn ?_; refine wl_box rfl rfl rfl rfl ?_; intro b3) | (refine Zgj ?_; try simp only [List.set]) | (refine lC 8 57 ?_; first | (refine Zhu ?_; intro q hq; clear hq q) | (refine Zhv ?_; (first | refine bad_end ?_ | refine bad_endM ?_); intro w hs)) | (refine lC 10 93 ?_; refine wl_callS rfl rfl has93 rfl Zbm ?_; intro bn hq; clear hq) | (refine lC 18 94 ?_; first | (refine Zho ?_; intro q hq; clear hq q) | (refine Zhp ?_; (first | refine bad_end ?_ | refine bad_endM ?_); intro w hs)) | (refine lC 22 95 ?_; first | (refine Zlp ?_; rintro ⟨ts, ow⟩ ⟨hoks, hown, hps⟩; dsimp only at hoks hown hps) | (refine Zlr ?_; refine bad_end ?_; intro w hs)) | (refine lC 31 97 ?_; first | (refine Zlx ?_; rintro n1 ⟨hok1, hp1⟩) | (refine Zly ?_; (first | refine bad_end ?_ | refine bad_endM ?_); intro w hs)) | ((show Wl _ _ _ _ _ _ _ (⟨some 33, .call ⟨.builtin .append, _, _⟩, _, _, _, _⟩ :: _) _ _); have hpl := tnsP_len ts; rw [hps] at hpl; refine Wl.reC (H' := ⟨b, true, row [ptr n1.b] 77⟩ :: fnc bn t.t t0.t t0.a ts.length ow :: (⟨b2, true, row [ptr r] 73⟩ : Ent) :: ⟨r, true, rdP lv (L.length - l'.length)⟩ :: ((A ++ (tnsH ts ++ tnH n1)) ++ ownH 77 ow)) (by intro e; simp only [fnc, List.count_append, cnt_cons]; omega) ?_; refine wl_append_own (m := ts.length) (k := 1) (o := ow) (xs := ptrs ts) (news := [ptr n1.b]) rfl rfl (slT rfl) (szT rfl) (byT rfl) (zeroT rfl) rfl rfl rfl hown Zd rfl (fun j v h => by simpa using h) Zc0 Zf7 Zcu Zf7 Zbw ?_; intro o2 hown2) | apply Wl.nil | (refine Zf9 ?_; try simp only [List.set]) | (apply wl_buildSlice rfl rfl (slT rfl) (szT rfl) (zeroT rfl) rfl Zf6 rfl; exact Zt; intro b)) | (apply gQ; first | (apply Wq.ev rfl rfl; exact Zu)) | (apply lW; first | apply W.seq | ((show W _ _ _ _ _ _ (.inl (.region 1 _ true) :: _) _ _); refine W.regionM [] [⟨b3, true, row (tiC t0) 67⟩, (⟨b2, true, row [ptr r] 73⟩ : Ent)] [⟨b3, true, row (tiC t0) 67⟩, (⟨b2, true, row [ptr r] 73⟩ : Ent)] mixed ?_) | ((show W _ _ _ _ _ _ (.inl (.region 5 _ true) :: _) _ _); refine W.regionM [11] [] [fnc bn t.t t0.t t0.a ts.length ow, (⟨b2, true, row [ptr r] 73⟩ : Ent)] mixed ?_) | apply W.region | (refine Zba ?_; intro w hs)) | ((show Wm _ _ _ _ _ _ _ _ _ _ _ _ _ _ _ _); first | ((refine Zgg ?_)) | (refine Zgq ?_) | (refine Zgs ?_) | (refine Zhs ?_) | (refine Zlo ?_) | (refine Zky ?_) | ((fail_if_success (refine Zbn ?_)); (refine Zgc ?_ ?_ <;> (intro h; try exact Zg))) | ((fail_if_success (refine Zbn ?_)); (refine Zga ?_ ?_ <;> (intro h; try exact Zg))) | apply Wm.next) | apply AllO.nil | apply AllO.cons | (refine Or.inl Zk) | ((show _ ∨ Wl _ _ _ _ _ _ _ _ _ _); apply Or.inr) | (refine Zgt ?_))
  all_goals first | (simp only [row_nd] at hs; exact GivesS.ofC hst1 hs (.mk bn 4 t0.t t.t 0 t0.a o2 (ts ++ [n1])) ⟨by rw [tnOk, len_snoc, ptrs_snoc]; exact ⟨hown2, tnsOk_app hoks (tnsOk1 hok1)⟩, by rw [tnP, tnsP_app, tnsP1, hps, hp1]; rfl⟩ rfl (by intro e; rw [(p2 _).count_eq, tnH, len_snoc, tnsH_app, tnsH1]; simp only [List.count_append, cnt_cons]; omega))
 all_goals ((refine Zf2 ?_; simp only [argL]); (repeat' (first | (apply gL; first | (apply Wl.ev rfl rfl; exact Zu) | (refine lB 2 ?_; refine wl_box rfl rfl rfl rfl ?_; intro b2) | (refine Zfn ?_; refine wl_box rfl rfl rfl rfl ?_; intro b3) | (refine Zgj ?_; try simp only [List.set]) | (refine lC 8 57 ?_; first | (refine Zhu ?_; intro q hq; clear hq q) | (refine Zhv ?_; (first | refine bad_end ?_ | refine bad_endM ?_); intro w hs)) | (refine lC 10 93 ?_; refine wl_callS rfl rfl has93 rfl Zbm ?_; intro bn hq; clear hq) | (refine lC 18 94 ?_; first | (refine Zho ?_; intro q hq; clear hq q) | (refine Zhp ?_; (first | refine bad_end ?_ | refine bad_endM ?_); intro w hs)) | (refine lC 22 95 ?_; first | (refine Zlp ?_; rintro ⟨ts, ow⟩ ⟨hoks, hown, hps⟩; dsimp only at hoks hown hps) | (refine Zlr ?_; refine bad_end ?_; intro w hs)) | (refine lC 31 97 ?_; first | (refine Zlx ?_; rintro n1 ⟨hok1, hp1⟩) | (refine Zly ?_; (first | refine bad_end ?_ | refine bad_endM ?_); intro w hs)) | apply Wl.nil | (refine Zf9 ?_; try simp only [List.set])) | (apply gQ; first | (apply Wq.ev rfl rfl; exact Zu)) | (apply lW; first | apply W.seq | ((show W _ _ _ _ _ _ (.inl (.region 1 _ true) :: _) _ _); refine W.regionM [] [⟨b3, true, row (tiC t0) 67⟩, (⟨b2, true, row [ptr r] 73⟩ : Ent)] [⟨b3, true, row (tiC t0) 67⟩, (⟨b2, true, row [ptr r] 73⟩ : Ent)] mixed ?_) | ((show W _ _ _ _ _ _ (.inl (.region 5 _ true) :: _) _ _); refine W.regionM [11] [] [fnc bn t.t t0.t t0.a ts.length ow, (⟨b2, true, row [ptr r] 73⟩ : Ent)] mixed ?_) | apply W.region) | ((show Wm _ _ _ _ _ _ _ _ _ _ _ _ _ _ _ _); first | ((refine Zgg ?_)) | (refine Zgq ?_) | (refine Zgs ?_) | (refine Zhs ?_) | (refine Zlo ?_) | (refine Zky ?_) | ((fail_if_success (refine Zbn ?_)); (refine Zgc ?_ ?_ <;> (intro h; try exact Zg))) | ((fail_if_success (refine Zbn ?_)); (refine Zga ?_ ?_ <;> (intro h; try exact Zg))) | apply Wm.next) | apply AllO.nil | apply AllO.cons | (refine Or.inl Zk) | ((show _ ∨ Wl _ _ _ _ _ _ _ _ _ _); apply Or.inr) | (refine Zgt ?_))); all_goals first | exact BadS.ofC hst1 hs Zo | fail)
end Go.Proofs.YtbinaeemcidicaaGreatDoor
