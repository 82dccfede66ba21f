/- Walks: a tree's nodes put in order. No condition. -/
import Derived.Test.YtbinaeemcidicaaGreatDoorZPF
import Derived.Test.YtbinaeemcidicaaGreatDoorZCn
set_option maxRecDepth 100000
set_option maxHeartbeats 16000000
namespace Go.Proofs.YtbinaeemcidicaaGreatDoor
open Go.PB Go.RowKit
attribute [local irreducible] Go.Calls
abbrev Nk := Nd × Ow
def ndC (x : Nk) : List Value := [.int .i64 x.1.kd, st x.1.ty, st x.1.tx, .int .i32 x.1.nm, ownV x.1.ks.length x.2, .int .i64 x.1.pl]
def ndsC (l : List Nk) : List Value := l.flatMap ndC
def ndKH (l : List Nk) : List Ent := l.flatMap fun x => ownH 3 x.2
def ndKok (l : List Nk) : Prop := ∀ x ∈ l, ownOk x.1.ks.length 1 (intV x.1.ks) x.2
def spC : Option Int → List Value
 | none => [.int .i64 0, .int .i64 0]
 | some x => [.int .i64 3, .int .i64 x]
theorem ndsC_app (a b : List Nk) : ndsC (a ++ b) = ndsC a ++ ndsC b := by unfold ndsC; rw [List.flatMap_append]
theorem ndsC_cons (x : Nk) (b : List Nk) : ndsC (x :: b) = ndC x ++ ndsC b := by unfold ndsC; rw [List.flatMap_cons]
theorem ndsC_len : ∀ l : List Nk, (ndsC l).length = l.length * 6
 | [] => rfl
 | x :: l => by
  rw [ndsC_cons, List.length_append, ndsC_len l, List.length_cons]
  show 6 + l.length * 6 = _
  omega
theorem ndKH_app (a b : List Nk) : ndKH (a ++ b) = ndKH a ++ ndKH b := by unfold ndKH; rw [List.flatMap_append]
theorem ndKH_cons (x : Nk) (b : List Nk) : ndKH (x :: b) = ownH 3 x.2 ++ ndKH b := by unfold ndKH; rw [List.flatMap_cons]
theorem ndKH_nil : ndKH [] = [] := rfl
theorem own_setN {n sz : Nat} {xs : List Value} {b cap : Nat} {c : Array Value} {i : Nat} {v : Value} (h : ownOk n sz xs (some (b, cap, c))) : ownOk n sz (xs.set i v) (some (b, cap, c.setIfInBounds i v)) := by
 obtain ⟨k1, k2, k3, k4, k5⟩ := h
 dsimp only at k1 k2 k3 k4 k5
 refine ⟨k1, k2, by simpa using k3, ?_, by simpa using k5⟩
 simp only [Array.toList_setIfInBounds]
 rw [← k4, List.take_set]
theorem ndsC_set {N N1 : List Nk} {kd : Int} {ty tx : List UInt8} {nm pl : Int} {ks ks' : List Int} {o o' : Ow} : (ndsC (N ++ (⟨kd, ty, tx, nm, ks, pl⟩, o) :: N1)).set (N.length * 6 + 4) (ownV ks'.length o') = ndsC (N ++ (⟨kd, ty, tx, nm, ks', pl⟩, o') :: N1) := by
 rw [ndsC_app, ndsC_app, ndsC_cons, ndsC_cons, List.set_append_right _ _ (by rw [ndsC_len]; omega), ndsC_len, show N.length * 6 + 4 - N.length * 6 = 4 by omega]
 rfl
theorem ndsC_at {N N1 : List Nk} {kd : Int} {ty tx : List UInt8} {nm pl : Int} {ks : List Int} {o : Ow} : (ndsC (N ++ (⟨kd, ty, tx, nm, ks, pl⟩, o) :: N1))[N.length * 6 + 4]? = some (ownV ks.length o) := by
 rw [ndsC_app, ndsC_cons, List.getElem?_append_right (by rw [ndsC_len]; omega), ndsC_len, show N.length * 6 + 4 - N.length * 6 = 4 by omega]
 rfl
theorem pre_get {l : List Value} {n j : Nat} {v : Value} (h : (l.take n)[j]? = some v) : l.toArray[0 + j]? = some v := by
 rw [List.getElem?_take] at h
 split at h
 ·rw [Nat.zero_add]
  simpa using h
 ·cases h
abbrev flH (tb sb pb : Nat) (N : List Nk) (o : Ow) (sp : Option Int) (A : List Ent) : List Ent :=
 ⟨tb, true, row [ownV N.length o] 24⟩ :: ⟨sb, true, row (spC sp) 38⟩ :: ⟨pb, true, row [fnV 54 [] [ptr sb, ptr tb, ptr pb]] 101⟩ :: ((A ++ ndKH N) ++ ownH 47 o)
def PutC (t : Tn) : Prop := ∀ {M : List Nat} {w0 w : World} {A : List Ent} {N : List Nk} {o : Ow} {sp : Option Int} {d tb sb pb : Nat}, St M w0 w (flH tb sb pb N o sp A) → (∀ e ∈ tnH t, e ∈ A) → tnOk t → ownOk N.length 6 (ndsC N) o → N.length + cntP (tnP t) ≤ 1500000 → d ≤ 33 →
 Calls Tryz.prog 54 #[ptr t.b, .int .i64 (d : Nat), ptr sb, ptr tb, ptr pb] w (GivesS (fun _ : List Nk × Ow => .tuple #[]) (fun x => x.1.map Prod.fst = (putP (tnP t) d N.length sp).1 ∧ ownOk (N ++ x.1).length 6 (ndsC (N ++ x.1)) x.2 ∧ ndKok x.1) M w0
  (fun x => flH tb sb pb (N ++ x.1) x.2 (putP (tnP t) d N.length sp).2 A))
theorem agF : Ag Tryz.prog 101 false := ⟨_, Tryz.underlying101, rfl⟩
theorem szF : Sz Tryz.prog 101 1 := by
 unfold Sz
 kernel_rfl
theorem zeroF : Zero Tryz.prog 101 [.nilFunc] := zero_of (z := .nilFunc) Zj rfl
theorem own_oneF (n : Nat) (o : Ow) : (ownV n o).oneCell' = true := by cases o <;> rfl
theorem put_some (t : Tn) {M : List Nat} {w0 w : World} {H : List Ent} {x : Int} {d tb sb pb : Nat} (hst1 : St M w0 w H) (hm : (⟨sb, true, row [.int .i64 3, .int .i64 x] 38⟩ : Ent) ∈ H) :
  Calls Tryz.prog 54 #[ptr t.b, .int .i64 (d : Nat), ptr sb, ptr tb, ptr pb] w (GivesS (fun _ : Unit => .tuple #[]) (fun _ => True) M w0 fun _ => H) := by
 obtain ⟨b, hb⟩ : ∃ b, t.b = b := ⟨_, rfl⟩
 rw [hb]
 (refine Zdt ?_; simp only [argL])
 repeat' (first | (apply gL; first | (apply Wl.ev rfl rfl; (focus (first | exact ev_load (agT rfl) rfl hm rfl | exact Zev))) | apply Wl.nil | (refine Zbr ?_) | ((fail_if_success (apply Wl.chk rfl)); refine Wl.split rfl rfl ?_ ?_ <;> (intro h; try exact Za))) | (apply gQ; first | (apply Wq.ev rfl rfl; (focus (first | exact ev_load (agT rfl) rfl hm rfl | exact Zev)))) | (apply lW; first | apply W.seq | apply W.region | apply W.skip | (refine Zbk ?_) | (refine Zbg ?_) | (refine W.ret0 rfl ?_; intro w hs)))
 all_goals first | exact GivesS.of hst1 hs () trivial rfl Ze | contradiction | exact Zy
theorem put_deep {M : List Nat} {w0 w : World} {H H' : List Ent} {b : Nat} {kd : Int} {ty tx : List UInt8} {nm pl : Int} {kp : Option Addr} {kn kc : Nat} {d tb sb pb : Nat} (hst1 : St M w0 w H) (hd : 32 < d) (hm : (⟨b, true, ndO kd ty tx nm pl (.slice kp kn kc)⟩ : Ent) ∈ H)
  (hu : Upd H sb (row [.int .i64 0, .int .i64 0] 38) (row [.int .i64 3, .int .i64 pl] 38) H') :
  Calls Tryz.prog 54 #[ptr b, .int .i64 (d : Nat), ptr sb, ptr tb, ptr pb] w (GivesS (fun _ : Unit => .tuple #[]) (fun _ => True) M w0 fun _ => H') := by
 obtain ⟨A, p1, p2⟩ := hu.front
 have hmA : (⟨b, true, ndO kd ty tx nm pl (.slice kp kn kc)⟩ : Ent) ∈ A := mem_frontE p1 hm (fun e => absurd (show 104 = 38 from congrArg objT (congrArg Ent.o e)) Zf6)
 obtain ⟨A', pA⟩ : ∃ A', List.Perm A (⟨b, true, ndO kd ty tx nm pl (.slice kp kn kc)⟩ :: A') := ⟨_, List.perm_cons_erase hmA⟩
 replace hst1 := hst1.perm (p1.trans (pA.cons _))
 (refine Zdt ?_; simp only [argL])
 repeat' (first | (apply gL; first | (apply Wl.ev rfl rfl; exact Zev) | (refine Zgm ?_) | (refine wl_store1 rfl rfl rfl (by first | rfl | exact own_oneF _ _) (szT rfl) Zf Zbe ?_; try simp only [List.set]) | apply Wl.nil | ((fail_if_success (apply Wl.chk rfl)); refine Wl.split rfl rfl ?_ ?_ <;> (intro h; try exact Za))) | (apply gQ; first | (apply Wq.ev rfl rfl; exact Zev)) | (apply lW; first | apply W.seq | (((show W _ _ _ _ _ _ (.inl (.region 1 _ true) :: _) _ _); refine W.regionM [5, 7, 9] [] [⟨b, true, ndO kd ty tx nm pl (.slice kp kn kc)⟩] mixed ?_)) | apply W.region | (refine Zbk ?_) | (refine W.ret0 rfl ?_; intro w hs)) | ((show Wm _ _ _ _ _ _ _ _ _ _ _ _ _ _ _ _); first | ((refine Zgg ?_)) | (refine Zgq ?_) | (refine Zgs ?_) | (refine Zhs ?_) | (refine Ziy ?_) | (refine Zim ?_) | ((fail_if_success (refine Zbn ?_)); (refine Zgc ?_ ?_ <;> (intro h; try exact Za))) | ((fail_if_success (refine Zbn ?_)); (refine Zga ?_ ?_ <;> (intro h; try exact Za))) | apply Wm.next) | apply AllO.nil | apply AllO.cons | (refine Or.inl Zk) | ((show _ ∨ Wl _ _ _ _ _ _ _ _ _ _); apply Or.inr) | (refine Zgt ?_))
 all_goals first | exact GivesS.ofC hst1 hs () trivial rfl (by intro e; rw [p2.count_eq]; have hp := pA.count_eq e; simp only [cnt_cons] at hp ⊢; omega) | contradiction | exact Zy
end Go.Proofs.YtbinaeemcidicaaGreatDoor
namespace Go.Proofs.YtbinaeemcidicaaGreatDoor
open Go.PB Go.RowKit
attribute [local irreducible] Go.Calls
def putI (ts : List Tn) (kd : Int) (ty tx : List UInt8) (nm pl : Int) (d : Nat) (N : List Nk) (j : Nat) (is : List Int) (N1 : List Nk) (sp : Option Int) (o ok : Ow) : Prop :=
 j ≤ ts.length ∧ is.length = j ∧ ownOk (N ++ (⟨kd, ty, tx, nm, is, pl⟩, ok) :: N1).length 6 (ndsC (N ++ (⟨kd, ty, tx, nm, is, pl⟩, ok) :: N1)) o ∧ ndKok N1 ∧ ownOk is.length 1 (intV is) ok ∧
 N.length + 1 + N1.length + cntL ((tnsP ts).drop j) ≤ 1500000 ∧
 putL (tnsP ts) d (N.length + 1) none = (is ++ (putL ((tnsP ts).drop j) d (N.length + 1 + N1.length) sp).1, N1.map Prod.fst ++ (putL ((tnsP ts).drop j) d (N.length + 1 + N1.length) sp).2.1, (putL ((tnsP ts).drop j) d (N.length + 1 + N1.length) sp).2.2)
theorem putI_next {ts : List Tn} {kd : Int} {ty tx : List UInt8} {nm pl : Int} {d : Nat} {N : List Nk} {j : Nat} {is : List Int} {N1 : List Nk} {sp : Option Int} {o ok : Ow} (h : putI ts kd ty tx nm pl d N j is N1 sp o ok) (hlt : j < ts.length) {N2 : List Nk} {o' ok' : Ow}
  (h2 : N2.map Prod.fst = (putP (tnP ts[j]) (d + 1) (N.length + 1 + N1.length) sp).1) (hN2 : ndKok N2) (hok : ownOk (is.length + 1) 1 (intV is ++ [.int .i64 ((N.length + 1 + N1.length : Nat) : Int)]) ok')
  (ho : ownOk (N ++ (⟨kd, ty, tx, nm, is ++ [((N.length + 1 + N1.length : Nat) : Int)], pl⟩, ok') :: N1 ++ N2).length 6 (ndsC (N ++ (⟨kd, ty, tx, nm, is ++ [((N.length + 1 + N1.length : Nat) : Int)], pl⟩, ok') :: N1 ++ N2)) o') :
  putI ts kd ty tx nm pl d N (j + 1) (is ++ [((N.length + 1 + N1.length : Nat) : Int)]) (N1 ++ N2) (putP (tnP ts[j]) (d + 1) (N.length + 1 + N1.length) sp).2 o' ok' := by
 obtain ⟨h1, h3, h4, h5, h6, h7, h8⟩ := h
 have hl : (tnsP ts).length = ts.length := by rw [tnsP_map, List.length_map]
 have hd : (tnsP ts).drop j = tnP ts[j] :: (tnsP ts).drop (j + 1) := by
  rw [List.drop_eq_getElem_cons Zf7]
  congr 1
  simp only [tnsP_map, List.getElem_map]
 have hlen : N2.length = (putP (tnP ts[j]) (d + 1) (N.length + 1 + N1.length) sp).1.length := by rw [← h2, List.length_map]
 have hle := putP_le (tnP ts[j]) (d + 1) (N.length + 1 + N1.length) sp
 rw [hd, cntL] at h7
 refine ⟨hlt, by simp [h3], ?_, ?_, ?_, ?_, ?_⟩
 ·rw [← List.cons_append, ← List.append_assoc]
  exact ho
 ·intro x hx
  rcases List.mem_append.1 hx with hx | hx
  ·exact h5 x hx
  ·exact hN2 x hx
 ·simpa [intV] using hok
 ·rw [List.length_append]
  omega
 ·rw [h8, hd, putL]
  dsimp only
  rw [List.length_append, hlen, ← Nat.add_assoc, List.map_append, h2]
  simp only [List.append_assoc, List.cons_append, List.nil_append]
theorem cntL_len : ∀ l : List Pt, l.length ≤ cntL l
 | [] => Nat.zero_le _
 | p :: l => by
  have := cntP_pos p
  have := cntL_len l
  rw [cntL, List.length_cons]
  omega
theorem put_call {t : Tn} (ih : PutC t) {M : List Nat} {w0 w : World} {H A : List Ent} {N : List Nk} {o : Ow} {sp : Option Int} {d tb sb pb : Nat} {x : Int} (hx : x = ((d : Nat) : Int)) (hst : St M w0 w H) (hc : ∀ e, (flH tb sb pb N o sp A).count e ≤ H.count e) (hm : ∀ e ∈ tnH t, e ∈ A) (hok : tnOk t)
  (hown : ownOk N.length 6 (ndsC N) o) (hb : N.length + cntP (tnP t) ≤ 1500000) (hd : d ≤ 33) :
  Calls Tryz.prog 54 #[ptr t.b, .int .i64 x, ptr sb, ptr tb, ptr pb] w (GivesS (fun _ : List Nk × Ow => .tuple #[]) (fun x => x.1.map Prod.fst = (putP (tnP t) d N.length sp).1 ∧ ownOk (N ++ x.1).length 6 (ndsC (N ++ x.1)) x.2 ∧ ndKok x.1) M w0
   (fun x => flH tb sb pb (N ++ x.1) x.2 (putP (tnP t) d N.length sp).2 A)) := by
 subst hx
 exact ih (hst.subc hc) hm hok hown hb hd
theorem put_own {N N1 : List Nk} {kd : Int} {ty tx : List UInt8} {nm pl : Int} {is : List Int} {n : Int} {ok ok2 : Ow} {nb cap m : Nat} {cur : Array Value} (h : ownOk m 6 (ndsC (N ++ ((⟨kd, ty, tx, nm, is, pl⟩, ok) :: N1 : List Nk))) (some (nb, cap, cur)))
  (hm : (N ++ ((⟨kd, ty, tx, nm, is ++ [n], pl⟩, ok2) :: N1 : List Nk)).length = m) :
  ownOk (N ++ ((⟨kd, ty, tx, nm, is ++ [n], pl⟩, ok2) :: N1 : List Nk)).length 6 (ndsC (N ++ ((⟨kd, ty, tx, nm, is ++ [n], pl⟩, ok2) :: N1 : List Nk))) (some (nb, cap, cur.setIfInBounds (0 + (N.length : Int).toNat * 6 + 4) (ownV (is.length + 1) ok2))) := by
 have h2 := own_setN (i := N.length * 6 + 4) (v := ownV (is ++ [n]).length ok2) h
 rw [ndsC_set] at h2
 rw [hm, Int.toNat_natCast, Nat.zero_add, show ownV (is.length + 1) ok2 = ownV (is ++ [n]).length ok2 by rw [List.length_append]; rfl]
 exact h2
theorem own_first {N : List Nk} {kd : Int} {ty tx : List UInt8} {nm pl : Int} {o2 : Ow} (h : ownOk (N.length + 1) 6 (ndsC N ++ [.int .i64 kd, st ty, st tx, .int .i32 nm, .slice none 0 0, .int .i64 pl]) o2) : ownOk (N ++ ((⟨kd, ty, tx, nm, [], pl⟩, none) :: [] : List Nk)).length 6 (ndsC (N ++ ((⟨kd, ty, tx, nm, [], pl⟩, none) :: [] : List Nk))) o2 := by
 rw [List.length_append, ndsC_app]
 exact h
theorem put_go {b : Nat} {kd : Int} {ty tx : List UInt8} {nm pl : Int} {ow : Ow} {ts : List Tn} (ih : ∀ u ∈ ts, PutC u) {M : List Nat} {w0 w : World} {A : List Ent} {N : List Nk} {o : Ow} {d tb sb pb : Nat} (hst : St M w0 w (flH tb sb pb N o none A))
  (hm : ∀ e ∈ tnH (.mk b kd ty tx nm pl ow ts), e ∈ A) (hok : tnOk (.mk b kd ty tx nm pl ow ts)) (hown : ownOk N.length 6 (ndsC N) o) (hb : N.length + cntP (tnP (.mk b kd ty tx nm pl ow ts)) ≤ 1500000) (hd : ¬32 < d) :
  Calls Tryz.prog 54 #[ptr b, .int .i64 (d : Nat), ptr sb, ptr tb, ptr pb] w (GivesS (fun _ : List Nk × Ow => .tuple #[]) (fun x => x.1.map Prod.fst = (putP (tnP (.mk b kd ty tx nm pl ow ts)) d N.length none).1 ∧ ownOk (N ++ x.1).length 6 (ndsC (N ++ x.1)) x.2 ∧ ndKok x.1) M w0
   (fun x => flH tb sb pb (N ++ x.1) x.2 (putP (tnP (.mk b kd ty tx nm pl ow ts)) d N.length none).2 A)) := by
 rw [tnOk] at hok
 rw [tnP, cntP] at hb
 rw [tnP, putP_go hd]
 obtain ⟨hko, hts⟩ := hok
 have hkid : RdX A (ownV ts.length ow) ts.length (ptrs ts) := RdX.own hko (fun p hp => hm p (by rw [tnH]; exact List.Mem.tail _ (List.mem_append_left _ hp)))
 have hmA : (⟨b, true, ndO kd ty tx nm pl (ownV ts.length ow)⟩ : Ent) ∈ A := hm _ (by rw [tnH]; exact List.Mem.head _)
 have hkA : ∀ u ∈ ts, ∀ e ∈ tnH u, e ∈ A := fun u hu e he => hm e (by rw [tnH]; exact List.Mem.tail _ (List.mem_append_right _ (by rw [tnsH_flat]; exact List.mem_flatMap.2 ⟨u, hu, he⟩)))
 obtain ⟨kp, kc, hv⟩ := hkid.len
 rw [hv] at hkid hmA
 clear hm hko hv
 obtain ⟨A', pA⟩ : ∃ A', List.Perm A (⟨b, true, ndO kd ty tx nm pl (.slice kp ts.length kc)⟩ :: A') := ⟨_, List.perm_cons_erase hmA⟩
 have hst1 : St M w0 w ((⟨b, true, ndO kd ty tx nm pl (.slice kp ts.length kc)⟩ : Ent) :: (⟨tb, true, row [ownV N.length o] 24⟩ : Ent) :: (⟨sb, true, row [.int .i64 0, .int .i64 0] 38⟩ : Ent) :: (⟨pb, true, row [fnV 54 [] [ptr sb, ptr tb, ptr pb]] 101⟩ : Ent) :: ((A' ++ ndKH N) ++ ownH 47 o)) := hst.subc (by intro e; have hp := pA.count_eq e; simp only [spC, List.count_append, cnt_cons] at hp ⊢; omega)
 obtain ⟨np, nc, hlv⟩ := (RdX.own (R := ownH 47 o) (e := 47) hown (fun p hp => hp)).len
 (refine Zdt ?_; simp only [argL])
 repeat' (first | (apply gL; first | (apply Wl.ev rfl rfl; exact Zgd) | ((show Wl _ _ _ _ _ _ _ (⟨some 36, .buildSlice _ _ _, _, _, _, _⟩ :: _) _ _); apply wl_buildSlice rfl rfl (slT rfl) (szT rfl) (zeroT rfl) rfl Zf6 rfl; exact Zt; intro b1) | ((show Wl _ _ _ _ _ _ _ (⟨some 37, .call ⟨.builtin .append, _, _⟩, _, _, _, _⟩ :: _) _ _); refine Wl.reC (H' := ⟨b1, true, row [.int .i64 kd, st ty, st tx, .int .i32 nm, .slice none 0 0, .int .i64 pl] 47⟩ :: (⟨b, true, ndO kd ty tx nm pl (.slice kp ts.length kc)⟩ : Ent) :: (⟨tb, true, row [ownV N.length o] 24⟩ : Ent) :: (⟨sb, true, row [.int .i64 0, .int .i64 0] 38⟩ : Ent) :: (⟨pb, true, row [fnV 54 [] [ptr sb, ptr tb, ptr pb]] 101⟩ : Ent) :: ((A' ++ ndKH N) ++ ownH 47 o)) Zfa ?_; refine wl_append_own (m := N.length) (k := 1) (o := o) (xs := ndsC N) (news := [.int .i64 kd, st ty, st tx, .int .i32 nm, .slice none 0 0, .int .i64 pl]) rfl rfl (slT rfl) (szT rfl) (byT rfl) (zeroT rfl) rfl rfl rfl hown Zd rfl (fun j v h => by simpa using h) (by intro u hu; simp only [List.mem_cons, List.not_mem_nil, or_false] at hu; rcases hu with rfl | rfl | rfl | rfl | rfl | rfl <;> rfl) Zf7 Zcu Zf7 Zbw ?_; intro o2 hown2) | (refine wl_store1 rfl rfl rfl (by first | rfl | exact own_oneF _ _) (szT rfl) Zf Zbe ?_; try simp only [List.set]) | apply Wl.nil | (refine Zbr ?_) | ((fail_if_success (apply Wl.chk rfl)); refine Wl.split rfl rfl ?_ ?_ <;> (intro h; try exact Za))) | (apply gQ; first | (apply Wq.ev rfl rfl; exact Zgd)) | (apply lW; first | apply W.seq | ((show W _ _ _ _ _ _ (.inl (.region 4 _ true) :: _) _ _); refine W.regionM [9] [] [(⟨b, true, ndO kd ty tx nm pl (.slice kp ts.length kc)⟩ : Ent), (⟨tb, true, row [ownV N.length o] 24⟩ : Ent)] mixed ?_) | (refine W.reC (H' := flH tb sb pb (N ++ (⟨kd, ty, tx, nm, [], pl⟩, none) :: []) o2 none A) (by intro e; have hp := pA.count_eq e; simp only [flH, spC, List.length_append, List.length_cons, List.length_nil, Nat.zero_add, List.count_append, cnt_cons, List.count_nil, ndKH_app, ndKH_cons, ndKH_nil, ownH_none] at hp ⊢; omega) ?_; refine W.loop (X := Nat × List Int × List Nk × Option Int × Ow × Ow) (fun x => [(0, ptr b), (1, .int .i64 (d : Nat)), (2, ptr sb), (3, ptr tb), (4, ptr pb), (7, .int .i64 (N.length : Nat)), (42, .slice kp ts.length kc), (43, .int .i64 (ts.length : Nat)), (44, .int .i64 (x.1 : Nat))]) (fun x => flH tb sb pb (N ++ (⟨kd, ty, tx, nm, x.2.1, pl⟩, x.2.2.2.2.2) :: x.2.2.1) x.2.2.2.2.1 x.2.2.2.1 A) (fun x => putI ts kd ty tx nm pl d N x.1 x.2.1 x.2.2.1 x.2.2.2.1 x.2.2.2.2.1 x.2.2.2.2.2) (fun x => ts.length - x.1) (0, [], [], none, o2, none) ⟨Nat.zero_le _, rfl, own_first hown2, fun _ h => (by cases h), ⟨rfl, rfl⟩, by simp only [List.length_nil, List.drop_zero]; omega, by simp⟩ Zn (List.Sublist.refl _) ?_) | apply W.region | apply W.block | apply W.skip | (refine Zbg ?_)) | ((show Wm _ _ _ _ _ _ _ _ _ _ _ _ _ _ _ _); first | ((refine Zgg ?_)) | (refine Zgq ?_) | (refine Zgs ?_) | (refine Zhs ?_) | (refine Wm.take1 Zj rfl Zj Zk Zf6 rfl rfl Zgd Zb Zb ?_) | (refine Wm.take0 Zj rfl Zj Zk Zk Zf6 Zf6 rfl rfl Zgd Zb Zb ?_) | ((fail_if_success (refine Zbn ?_)); (refine Zgc ?_ ?_ <;> (intro h; try exact Za))) | ((fail_if_success (refine Zbn ?_)); (refine Zga ?_ ?_ <;> (intro h; try exact Za))) | apply Wm.next) | apply AllO.nil | apply AllO.cons | (refine Or.inl Zk) | ((show _ ∨ Wl _ _ _ _ _ _ _ _ _ _); apply Or.inr) | (refine Zgt ?_))
 rintro ⟨j, is, N1, sp1, o1, ok⟩ hI
 dsimp only at hI ⊢
 have hI' := hI
 obtain ⟨hj, his, hown1, hkN1, hok1, hb1, hspec⟩ := hI'
 have hlA : (N ++ (⟨kd, ty, tx, nm, is, pl⟩, ok) :: N1).length = N.length + 1 + N1.length := by simp only [List.length_append, List.length_cons]; omega
 by_cases hlt : j < ts.length
 ·obtain ⟨nb, cap, cur, rfl, hcap, hsz, hget⟩ := own_some hown1 Zf7
  have hcell : cur[0 + (N.length : Int).toNat * 6 + 4]? = some (ownV is.length ok) := hget _ _ (by rw [Int.toNat_natCast, Nat.zero_add]; exact ndsC_at)
  obtain ⟨kb, koff, kc1, karr, ket, kfr, kwr, ke, kmem, kcap, kget⟩ := hkid.pos Zf7
  cases ke
  have hkp : karr[koff + (j : Int).toNat * 1]? = some (ptr ts[j].b) := kget j _ (by simp [hlt]) _ Zf7
  have hlB : ∀ {ok2 : Ow}, (N ++ ((⟨kd, ty, tx, nm, is ++ [((N.length + 1 + N1.length : Nat) : Int)], pl⟩, ok2) : Nk) :: N1).length = N.length + 1 + N1.length := by intro ok2; simp only [List.length_append, List.length_cons]; omega
  have hbj : N.length + 1 + N1.length + cntP (tnP ts[j]) ≤ 1500000 := by
   have hl : (tnsP ts).length = ts.length := by rw [tnsP_map, List.length_map]
   have hd : (tnsP ts).drop j = tnP ts[j] :: (tnsP ts).drop (j + 1) := by
    rw [List.drop_eq_getElem_cons Zf7]
    congr 1
    simp only [tnsP_map, List.getElem_map]
   rw [hd, cntL] at hb1
   omega
  have hkl := cntL_len (tnsP ts)
  rw [tnsP_map, List.length_map, ← tnsP_map] at hkl
  dsimp only [flH]
  rw [hlA] at hown1 hcap ⊢
  repeat' (first | (apply gL; first | (apply Wl.ev rfl rfl; exact Zgn) | ((show Wl _ _ _ _ _ _ _ (⟨some 61, .call ⟨.builtin .append, _, _⟩, _, _, _, _⟩ :: _) _ _); refine wl_append_own (m := is.length) (k := 1) (o := ok) (xs := intV is) (news := [.int .i64 ((N.length + 1 + N1.length : Nat) : Int)]) rfl rfl (slT rfl) (szT rfl) (byT rfl) (zeroT rfl) rfl rfl rfl hok1 Zd rfl (fun j v h => by simpa using h) Zc0 Zf7 Zcu Zf7 Zbw ?_; intro ok2 hok2) | ((show Wl _ _ _ _ _ _ _ (⟨none, .store _ (.tmp 63) (.tmp 61), _, _, _, _⟩ :: _) _ _); refine wl_storeCell rfl rfl rfl (own_oneF _ _) (szT rfl) Zf Zf7 (fun h => absurd h.2 (Nat.not_lt_zero _)) ?_) | (refine lV 68 ?_; refine wl_callG rfl rfl has54 rfl rfl (fun w hs => put_call (N := N ++ ((⟨kd, ty, tx, nm, is ++ [((N.length + 1 + N1.length : Nat) : Int)], pl⟩, ok2) : Nk) :: N1) (o := some (nb, cap, cur.setIfInBounds (0 + (N.length : Int).toNat * 6 + 4) (ownV (is.length + 1) ok2))) (sp := sp1) (A := A) (d := d + 1) (ih _ (List.getElem_mem hlt)) (Int.natCast_succ d).symm hs (by dsimp only [flH]; rw [hlB]; (intro e; simp only [ownV_some, List.count_append, cnt_cons, List.count_nil, ndKH_app, ndKH_cons, ownH_some]; omega)) (hkA _ (List.getElem_mem hlt)) ((tnsOk_all _).1 hts _ (List.getElem_mem hlt)) (put_own hown1 hlB) (by rw [hlB]; exact hbj) Zf7) ?_; rintro ⟨N2, o3⟩ ⟨h2, ho3, hN2⟩) | apply Wl.nil | (apply wl_buildSlice rfl rfl (slT rfl) (szT rfl) (zeroT rfl) rfl Zf6 rfl; exact Zt; intro b)) | (apply gQ; first | (apply Wq.ev rfl rfl; exact Zgn)) | (apply lW; first | apply W.seq | ((show W _ _ _ _ _ _ (.inl (.region 8 _ true) :: _) _ _); refine W.reC (H' := (⟨nb, true, .cells cur 47 (0, 0)⟩ : Ent) :: (⟨tb, true, row [ownV (N.length + 1 + N1.length) (some (nb, cap, cur))] 24⟩ : Ent) :: (⟨sb, true, row (spC sp1) 38⟩ : Ent) :: (⟨pb, true, row [fnV 54 [] [ptr sb, ptr tb, ptr pb]] 101⟩ : Ent) :: ((A ++ (ndKH N ++ ndKH N1)) ++ ownH 3 ok)) Zfa ?_; refine W.regionM [16] [] [(⟨nb, true, .cells cur 47 (0, 0)⟩ : Ent), (⟨tb, true, row [ownV (N.length + 1 + N1.length) (some (nb, cap, cur))] 24⟩ : Ent)] mixed ?_) | apply W.region | apply W.block | apply W.blk | apply W.skip | (refine Zz ?_ ?_ <;> (intro h; try exact Za))) | ((show Wm _ _ _ _ _ _ _ _ _ _ _ _ _ _ _ _); first | ((refine Zgg ?_)) | (refine Zgq ?_) | (refine Zgs ?_) | (refine Zhs ?_) | (refine Wm.take1 Zj rfl Zj Zk Zf6 rfl rfl Zgn Zb Zb ?_) | (refine Wm.take0 Zj rfl Zj Zk Zk Zf6 Zf6 rfl rfl Zgn Zb Zb ?_) | ((fail_if_success (refine Zbn ?_)); (refine Zgc ?_ ?_ <;> (intro h; try exact Za))) | ((fail_if_success (refine Zbn ?_)); (refine Zga ?_ ?_ <;> (intro h; try exact Za))) | apply Wm.next) | apply AllO.nil | apply AllO.cons | (refine Or.inl Zk) | ((show _ ∨ Wl _ _ _ _ _ _ _ _ _ _); apply Or.inr) | (refine Zgt ?_))
  all_goals first | (refine W.reC (H' := flH tb sb pb (N ++ ((⟨kd, ty, tx, nm, is ++ [((N.length + 1 + N1.length : Nat) : Int)], pl⟩, ok2) : Nk) :: (N1 ++ N2)) o3 (putP (tnP ts[j]) (d + 1) (N.length + 1 + N1.length) sp1).2 A) (by intro e; simp only [flH, hlB, List.append_assoc, List.cons_append, Nat.le_refl]) ?_; exact W.again (j + 1, is ++ [((N.length + 1 + N1.length : Nat) : Int)], N1 ++ N2, (putP (tnP ts[j]) (d + 1) (N.length + 1 + N1.length) sp1).2, o3, ok2) (putI_next hI hlt (by rw [hlB] at h2; exact h2) hN2 hok2 ho3) (by show ts.length - (j + 1) < ts.length - j; omega) Zn (List.Sublist.refl _)) | contradiction | exact Zy
 ·obtain rfl : j = ts.length := by omega
  rw [List.drop_of_length_le (by rw [tnsP_map, List.length_map]; exact Nat.le_refl _), putL] at hspec
  repeat' (first | (apply gL; first | (apply Wl.ev rfl rfl; exact Zev) | apply Wl.nil) | (apply gQ; first | (apply Wq.ev rfl rfl; exact Zev)) | (apply lW; first | apply W.seq | apply W.region | (refine Zcm ?_) | (refine Zz ?_ ?_ <;> (intro h; try exact Za)) | (refine Zdl ?_; intro w hs)))
  all_goals first | exact GivesS.ofC hst1 hs (((⟨kd, ty, tx, nm, is, pl⟩, ok) : Nk) :: N1, o1) ⟨by rw [hspec]; simp, hown1, fun x hx => by rcases List.mem_cons.1 hx with rfl | hx; exact hok1; exact hkN1 x hx⟩ rfl (by intro e; rw [hspec]; exact Nat.le_refl _) | contradiction | exact Zy
end Go.Proofs.YtbinaeemcidicaaGreatDoor
