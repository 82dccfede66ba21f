/- The parser's contracts: what stands ahead, what a call leaves in memory. No condition. -/
import Derived.Test.YtbinaeemcidicaaGreatDoorZPD
import Derived.Test.YtbinaeemcidicaaGreatDoorZCn
import Derived.Test.YtbinaeemcidicaaGreatDoorZED
set_option maxRecDepth 100000
set_option maxHeartbeats 16000000
namespace Go.PB
open Go.RowKit
def UpdT (H : List Ent) (b : Nat) (o o' : Obj) (K : List Ent → List Ent) : Prop := ∃ H1 H2, H = H1 ++ ⟨b, true, o⟩ :: H2 ∧ ∀ T, K T = H1 ++ ⟨b, true, o'⟩ :: (H2 ++ T)
theorem UpdT.here {b : Nat} {o o' : Obj} {A : List Ent} : UpdT (⟨b, true, o⟩ :: A) b o o' (fun T => ⟨b, true, o'⟩ :: (A ++ T)) := ⟨[], A, rfl, fun _ => rfl⟩
theorem UpdT.there {b : Nat} {o o' : Obj} {H : List Ent} {p : Ent} {K : List Ent → List Ent} (h : UpdT H b o o' K) : UpdT (p :: H) b o o' (fun T => p :: K T) := by
 obtain ⟨H1, H2, e, h⟩ := h
 exact ⟨p :: H1, H2, by rw [e]; rfl, fun T => by show p :: K T = _; rw [h]; rfl⟩
theorem UpdT.front {H : List Ent} {b : Nat} {o o' : Obj} {K : List Ent → List Ent} (h : UpdT H b o o' K) : ∃ A, List.Perm H (⟨b, true, o⟩ :: A) ∧ ∀ T, List.Perm (K T) (⟨b, true, o'⟩ :: (A ++ T)) := by
 obtain ⟨H1, H2, rfl, h⟩ := h
 exact ⟨H1 ++ H2, List.perm_middle, fun T => by rw [h, List.append_assoc]; exact List.perm_middle⟩
end Go.PB
namespace Go.Proofs.YtbinaeemcidicaaGreatDoor
open Go.PB Go.RowKit
attribute [local irreducible] Go.Calls
def At (L : List Ti) (a : Nat) (l : List Ti) : Prop := a ≤ L.length ∧ L.drop a = l
theorem At.next {L l : List Ti} {a : Nat} {t : Ti} (h : At L a (t :: l)) : At L (a + 1) l := ⟨drop_lt h.2, drop_next h.2⟩
theorem At.suf {L l l' : List Ti} {a : Nat} (h : At L a l) (hs : l' <:+ l) : At L (L.length - l'.length) l' := by
 have : l' <:+ L := hs.trans (by rw [← h.2]; exact List.drop_suffix a L)
 exact ⟨Nat.sub_le _ _, (List.suffix_iff_eq_drop.1 this).symm⟩
theorem At.step {L l l' : List Ti} {a f : Nat} {n : Nt} {o : Option (List Pt)} (h : At L a l) (e : pF f n l = some (o, l')) : At L (L.length - l'.length) l' := h.suf (pF_good f n l o l' e).1
theorem At.len {L l : List Ti} {a : Nat} (h : At L a l) : a = L.length - l.length := by
 have := h.1
 rw [← h.2, List.length_drop]
 omega
theorem At.le {L l : List Ti} {a : Nat} (h : At L a l) : l.length ≤ L.length := by
 rw [← h.2, List.length_drop]
 omega
theorem At.x {L l : List Ti} {a r : Nat} {TR : List Ent} {lv : Value} {t : Ti} (h : At L a l) (hT : TokE TR r lv L) (ht : t ∈ l) : -2147483648 < t.x ∧ t.x ≤ 2147483647 := hT.2.2.2 t (by rw [← h.2] at ht; exact List.mem_of_mem_drop ht)
def okT (p : Ti → Bool) (l : List Ti) : Bool := match l with
 | [] => false
 | t :: _ => p t
theorem tk_cases (p : Ti → Bool) (l : List Ti) : (∃ t l', l = t :: l' ∧ p t = true) ∨ okT p l = false := by
 cases l with
 | nil => exact .inr rfl
 | cons t l =>
  cases h : p t with
  | false => exact .inr h
  | true => exact .inl ⟨t, l, rfl, h⟩
theorem tkP_ok {p : Ti → Bool} {t : Ti} {l : List Ti} {k : Ti → List Ti → Rp} (h : p t = true) : tkP p (t :: l) k = k t l := by
 show (if p t = true then k t l else badP (t :: l)) = _
 rw [if_pos h]
theorem tkP_bad {p : Ti → Bool} {l : List Ti} {k : Ti → List Ti → Rp} (h : okT p l = false) : tkP p l k = badP l := by
 cases l with
 | nil => rfl
 | cons t l =>
  show (if p t = true then k t l else badP (t :: l)) = _
  rw [if_neg (by rw [show p t = false from h]; simp)]
theorem may_cases (s : List (List UInt8)) (l : List Ti) : (∃ t l', l = t :: l' ∧ isA s t = true) ∨ isA s (l.headD ti0) = false := by
 cases l with
 | nil => exact .inr rfl
 | cons t l =>
  cases h : isA s t with
  | false => exact .inr h
  | true => exact .inl ⟨t, l, rfl, h⟩
theorem mayP_yes {s : List (List UInt8)} {t : Ti} {l : List Ti} {k : Ti → List Ti → Rp} {e : Rp} (h : isA s t = true) : mayP s (t :: l) k e = k t l := by
 show (if isA s t = true then k t l else e) = _
 rw [if_pos h]
theorem mayP_no {s : List (List UInt8)} {l : List Ti} {k : Ti → List Ti → Rp} {e : Rp} (h : isA s (l.headD ti0) = false) : mayP s l k e = e := by
 cases l with
 | nil => rfl
 | cons t l =>
  show (if isA s t = true then k t l else e) = _
  rw [if_neg (by rw [show isA s t = false from h]; simp)]
theorem bnd_cases {f : Nat} {n : Nt} {l l' : List Ti} {k : List Pt → List Ti → Rp} {o : Option (List Pt)} (h : bndP (pF f n l) k = some (o, l')) : (pF f n l = some (none, l') ∧ o = none) ∨ ∃ ps l1, pF f n l = some (some ps, l1) ∧ k ps l1 = some (o, l') := by
 unfold bndP at h
 cases e : pF f n l with
 | none => rw [e] at h; cases h
 | some y =>
  obtain ⟨q, l3⟩ := y
  rw [e] at h
  cases q with
  | none => cases h; exact .inl ⟨rfl, rfl⟩
  | some ps => exact .inr ⟨ps, l3, rfl, h⟩
theorem pF_mono {f g : Nat} (hfg : f ≤ g) {n : Nt} {l : List Ti} {x} (h : pF f n l = some x) : pF g n l = some x := by
 induction hfg with
 | refl => exact h
 | step _ ih => exact pF_succ _ _ _ _ ih
theorem ptake_ok {M : List Nat} {w0 w : World} {H H' TR : List Ent} {r a : Nat} {lv fv : Value} {L l : List Ti} {p : Ti → Bool} {t : Ti} (hp : PredE fv p []) (hst : St M w0 w H)
  (hu : Upd H r (rdP lv a) (rdP lv (a + 1)) H') (hT : TokE TR r lv L) (hm : ∀ p ∈ TR, p ∈ H) (hl : At L a (t :: l)) (ht : p t = true) :
  Calls Tryz.prog 57 #[ptr r, fv] w (GivesS (fun _ : Unit => tiV t) (fun _ => True) M w0 fun _ => H') := take_ok hst hp Zgh Zgh hu hT hm hl.2 ht
theorem ok_bad {p : Ti → Bool} {L l : List Ti} {a : Nat} (hl : At L a l) (ht : okT p l = false) : a < L.length → p ((L.drop a).headD ti0) = false := fun hlt => by
 obtain ⟨h1, rfl⟩ := hl
 rw [List.drop_eq_getElem_cons hlt] at ht ⊢
 exact ht
theorem ptake_bad {M : List Nat} {w0 w : World} {H TR : List Ent} {r a : Nat} {lv fv : Value} {L l : List Ti} {p : Ti → Bool} (hp : PredE fv p []) (hst : St M w0 w H)
  (hr : (⟨r, true, rdP lv a⟩ : Ent) ∈ H) (hT : TokE TR r lv L) (hm : ∀ p ∈ TR, p ∈ H) (hl : At L a l) (ht : okT p l = false) :
  Calls Tryz.prog 57 #[ptr r, fv] w (BadS wrongC M w0 H) := take_bad hst hp Zgh hr hT hm hl.1 (ok_bad hl ht)
theorem psg_ok {M : List Nat} {w0 w : World} {H H' TR : List Ent} {r a : Nat} {lv : Value} {L l : List Ti} {s : List UInt8} {t : Ti} (hst : St M w0 w H)
  (hu : Upd H r (rdP lv a) (rdP lv (a + 1)) H') (hT : TokE TR r lv L) (hm : ∀ p ∈ TR, p ∈ H) (hl : At L a (t :: l)) (ht : isA [s] t = true) :
  Calls Tryz.prog 94 #[ptr r, st s] w (GivesS (fun _ : Unit => tiV t) (fun _ => True) M w0 fun _ => H') := psign_ok hst hu hT hm hl.2 ht
theorem psg_bad {M : List Nat} {w0 w : World} {H TR : List Ent} {r a : Nat} {lv : Value} {L l : List Ti} {s : List UInt8} (hst : St M w0 w H)
  (hr : (⟨r, true, rdP lv a⟩ : Ent) ∈ H) (hT : TokE TR r lv L) (hm : ∀ p ∈ TR, p ∈ H) (hl : At L a l) (ht : okT (isA [s]) l = false) :
  Calls Tryz.prog 94 #[ptr r, st s] w (BadS wrongC M w0 H) := psign_bad hst hr hT hm hl.1 (ok_bad hl ht)
def objT : Obj → TypeId
 | .cells _ t _ => t
 | _ => 0
theorem str_no_rd {q r a : Nat} {l : List Value} {lv : Value} : (⟨q, true, row l 9⟩ : Ent) ≠ ⟨r, true, rdP lv a⟩ := fun e => absurd (show 9 = 75 from congrArg objT (congrArg Ent.o e)) Zf6
theorem pmay_yes {M : List Nat} {w0 w : World} {H H' TR : List Ent} {r a q n : Nat} {lv : Value} {L l : List Ti} {s : List (List UInt8)} {t : Ti} (hst : St M w0 w H) (hb : (⟨q, true, row (strV s) 9⟩ : Ent) ∈ H)
  (hu : Upd H r (rdP lv a) (rdP lv (a + 1)) H') (hT : TokE TR r lv L) (hm : ∀ p ∈ TR, p ∈ H) (hl : At L a (t :: l)) (ht : isA s t = true) (hn : n = s.length) (hs1 : s.length ≤ 1000000) :
  Calls Tryz.prog 98 #[ptr r, .slice (some ⟨q, 0, none⟩) n n] w (GivesS (fun _ : Unit => mayV t true) (fun _ => True) M w0 fun _ => H') := by
 subst hn
 exact maybe_yes hst (rdx_row (R := [⟨q, true, row (strV s) 9⟩]) (List.Mem.head _) rfl) hs1 (fun e he => by rw [List.mem_singleton.1 he]; exact hb) (fun e he => by rw [List.mem_singleton.1 he]; exact str_no_rd) hu hT hm hl.2 ht
theorem pmay_no {M : List Nat} {w0 w : World} {H TR : List Ent} {r a q n : Nat} {lv : Value} {L l : List Ti} {s : List (List UInt8)} (hst : St M w0 w H) (hb : (⟨q, true, row (strV s) 9⟩ : Ent) ∈ H)
  (hr : (⟨r, true, rdP lv a⟩ : Ent) ∈ H) (hT : TokE TR r lv L) (hm : ∀ p ∈ TR, p ∈ H) (hl : At L a l) (ht : isA s (l.headD ti0) = false) (hn : n = s.length) (hs1 : s.length ≤ 1000000) :
  Calls Tryz.prog 98 #[ptr r, .slice (some ⟨q, 0, none⟩) n n] w (GivesS (fun _ : Unit => mayV ti0 false) (fun _ => True) M w0 fun _ => H) := by
 subst hn
 exact maybe_no hst (rdx_row (R := [⟨q, true, row (strV s) 9⟩]) (List.Mem.head _) rfl) hs1 (fun e he => by rw [List.mem_singleton.1 he]; exact hb) hr hT hm hl.1 (by rw [hl.2]; exact ht)
theorem pis {M : List Nat} {w0 w : World} {H : List Ent} {q n : Nat} {s : List (List UInt8)} {t : Ti} {b : Bool} (hst : St M w0 w H) (hb : (⟨q, true, row (strV s) 9⟩ : Ent) ∈ H) (ht : isA s t = b) (hn : n = s.length) (hs1 : s.length ≤ 1000000) :
  Calls Tryz.prog 60 #[tiV t, .slice (some ⟨q, 0, none⟩) n n] w (Give (.bool b) w) := by
 subst hn
 rw [← ht]
 exact isl_ok (R := [⟨q, true, row (strV s) 9⟩]) (hst.sub (List.singleton_sublist.2 hb)) (rdx_row (List.Mem.head _) rfl) hs1
theorem ppk0 {M : List Nat} {w0 w : World} {H TR : List Ent} {r a : Nat} {lv : Value} {L l : List Ti} (hst : St M w0 w H) (hr : (⟨r, true, rdP lv a⟩ : Ent) ∈ H) (hT : TokE TR r lv L) (hm : ∀ p ∈ TR, p ∈ H) (hl : At L a l) :
  Calls Tryz.prog 55 #[ptr r, .int .i64 0] w (Give (tiV (l.headD ti0)) w) := by
 have := ppeek_ok hst hr hT hm hl.1 (k := 0) Zf7
 rw [Nat.add_zero, hl.2] at this
 exact this
theorem ppk1 {M : List Nat} {w0 w : World} {H TR : List Ent} {r a : Nat} {lv : Value} {L l : List Ti} (hst : St M w0 w H) (hr : (⟨r, true, rdP lv a⟩ : Ent) ∈ H) (hT : TokE TR r lv L) (hm : ∀ p ∈ TR, p ∈ H) (hl : At L a l) :
  Calls Tryz.prog 55 #[ptr r, .int .i64 1] w (Give (tiV ((l.drop 1).headD ti0)) w) := by
 have := ppeek_ok hst hr hT hm hl.1 (k := 1) Zf7
 rw [← List.drop_drop, hl.2] at this
 exact this
theorem pnm {t : Ti} {b : Bool} (w : World) (h : namedT t = b) : Calls Tryz.prog 59 #[tiV t] w (Give (.bool b) w) := by
 rw [← h]
 exact named_ok t w
theorem pty {t : Ti} {b : Bool} (w : World) (h : typedT t = b) : Calls Tryz.prog 58 #[tiV t] w (Give (.bool b) w) := by
 rw [← h]
 exact typed_ok t w
theorem okT_head {s : List (List UInt8)} {l : List Ti} (h : okT (isA s) l = false) : isA s (l.headD ti0) = false := by
 cases l with
 | nil => rfl
 | cons t l => exact h
def NodeR (o : Option (List Pt)) (M : List Nat) (w0 : World) (K : List Ent → List Ent) : Ending → World → Prop := match o with
 | some ps => GivesS (fun t : Tn => ptr t.b) (fun t => tnOk t ∧ tnP t = hdP ps) M w0 (fun t => K (tnH t))
 | none => BadS wrongC M w0 (K [])
def NodeC (f : Nat) (n : Nt) (F : FuncId) (vs : List Value) : Prop := ∀ {M : List Nat} {w0 w : World} {H : List Ent} {K : List Ent → List Ent} {TR : List Ent} {r a : Nat} {lv : Value} {L l l' : List Ti} {o : Option (List Pt)},
 St M w0 w H → UpdT H r (rdP lv a) (rdP lv (L.length - l'.length)) K → TokE TR r lv L → (∀ p ∈ TR, p ∈ H) → At L a l → pF f n l = some (o, l') → Calls Tryz.prog F (ptr r :: vs).toArray w (NodeR o M w0 K)
def GenC (G : List Ti → Rp) (F : FuncId) (vs : List Value) : Prop := ∀ {M : List Nat} {w0 w : World} {H : List Ent} {K : List Ent → List Ent} {TR : List Ent} {r a : Nat} {lv : Value} {L l l' : List Ti} {o : Option (List Pt)},
 St M w0 w H → UpdT H r (rdP lv a) (rdP lv (L.length - l'.length)) K → TokE TR r lv L → (∀ p ∈ TR, p ∈ H) → At L a l → G l = some (o, l') → Calls Tryz.prog F (ptr r :: vs).toArray w (NodeR o M w0 K)
theorem node_ok {f : Nat} {n : Nt} {F : FuncId} {vs : List Value} (ih : NodeC f n F vs) {M : List Nat} {w0 w : World} {H : List Ent} {K : List Ent → List Ent} {TR : List Ent} {r a : Nat} {lv : Value} {L l l' : List Ti} {ps : List Pt}
  (hst : St M w0 w H) (e : pF f n l = some (some ps, l')) (hl : At L a l) (hu : UpdT H r (rdP lv a) (rdP lv (L.length - l'.length)) K) (hT : TokE TR r lv L) (hm : ∀ p ∈ TR, p ∈ H) : Calls Tryz.prog F (ptr r :: vs).toArray w (GivesS (fun t : Tn => ptr t.b) (fun t => tnOk t ∧ tnP t = hdP ps) M w0 (fun t => K (tnH t))) := ih hst hu hT hm hl e
theorem node_bad {f : Nat} {n : Nt} {F : FuncId} {vs : List Value} (ih : NodeC f n F vs) {M : List Nat} {w0 w : World} {H : List Ent} {K : List Ent → List Ent} {TR : List Ent} {r a : Nat} {lv : Value} {L l l' : List Ti}
  (hst : St M w0 w H) (e : pF f n l = some (none, l')) (hl : At L a l) (hu : UpdT H r (rdP lv a) (rdP lv (L.length - l'.length)) K) (hT : TokE TR r lv L) (hm : ∀ p ∈ TR, p ∈ H) : Calls Tryz.prog F (ptr r :: vs).toArray w (BadS wrongC M w0 (K [])) := ih hst hu hT hm hl e
theorem NodeC.le {f g : Nat} {n : Nt} {F : FuncId} {vs : List Value} (ih : NodeC g n F vs) (h : f ≤ g) : NodeC f n F vs := fun hst hu hT hm hl e => ih hst hu hT hm hl (pF_mono h e)
theorem pmade {M : List Nat} {w0 w : World} {H : List Ent} (hst : St M w0 w H) (kd : Int) (t : Ti) (tx : List UInt8) (p : Option Addr) (n c : Nat) :
  Calls Tryz.prog 93 #[.int .i64 kd, tiV t, st tx, .slice p n c] w (GivesS (fun b : Nat => ptr b) (fun _ => True) M w0 fun b => ⟨b, true, ndO kd [] tx 0 t.a (.slice p n c)⟩ :: H) :=
 (made_ok kd t tx p n c w).mono fun _ _ ⟨x, _, he, ht⟩ => ⟨x, trivial, he, hst.turn0 ht⟩
theorem row_nd {kd : Int} {ty tx : List UInt8} {nm pl : Int} {kv : Value} : row [.int .i64 kd, st ty, st tx, .int .i32 nm, .slice none 0 0, .int .i64 pl, kv] 104 = ndO kd ty tx nm pl kv := rfl
theorem tn_head {b : Nat} {kd : Int} {ty tx : List UInt8} {nm pl : Int} {o : Ow} {ks : List Tn} {X : List Ent} : (⟨b, true, ndO kd ty tx nm pl (ownV ks.length o)⟩ : Ent) ∈ X ++ tnH (.mk b kd ty tx nm pl o ks) := by
 rw [tnH]
 exact List.mem_append_right _ (List.Mem.head _)
theorem tn_kd {b : Nat} {kd : Int} {ty tx : List UInt8} {nm pl : Int} {o : Ow} {ks : List Tn} {p : Pt} (h : tnP (.mk b kd ty tx nm pl o ks) = p) : kd = p.kd := by rw [← h, tnP]; rfl
abbrev tnNew (b : Nat) (kd : Int) (ty tx : List UInt8) (nm pl : Int) (kb n : Nat) (ts : List Tn) : Tn := .mk b kd ty tx nm pl (some (kb, n, (ptrs ts).toArray)) ts
theorem tnH_new {b : Nat} {kd : Int} {ty tx : List UInt8} {nm pl : Int} {kb n : Nat} {ts : List Tn} (hn : ts.length = n) : tnH (tnNew b kd ty tx nm pl kb n ts) = ⟨b, true, ndO kd ty tx nm pl (.slice (some ⟨kb, 0, none⟩) n n)⟩ :: ⟨kb, true, row (ptrs ts) 77⟩ :: tnsH ts := by
 subst hn
 rw [tnH]
 rfl
theorem tnOk_new {b : Nat} {kd : Int} {ty tx : List UInt8} {nm pl : Int} {kb n : Nat} {ts : List Tn} (hn : ts.length = n) (hl : n ≤ 1000) (h : tnsOk ts) : tnOk (tnNew b kd ty tx nm pl kb n ts) := by
 rw [tnOk]
 exact ⟨⟨Nat.le_of_eq hn, Nat.le_trans hl Zf6, by simp [hn], by rw [Nat.mul_one, List.take_of_length_le Zgh], by simp⟩, h⟩
theorem tnP_new {b : Nat} {kd : Int} {ty tx : List UInt8} {nm pl : Int} {kb n : Nat} {ts : List Tn} : tnP (tnNew b kd ty tx nm pl kb n ts) = .mk kd ty tx nm pl (tnsP ts) := by rw [tnP]
theorem tnsOk1 {t : Tn} (h : tnOk t) : tnsOk [t] := by
 rw [tnsOk, tnsOk]
 exact ⟨h, trivial⟩
theorem tnsOk2 {t u : Tn} (h : tnOk t) (h2 : tnOk u) : tnsOk [t, u] := by
 rw [tnsOk]
 exact ⟨h, tnsOk1 h2⟩
theorem tnsP1 (t : Tn) : tnsP [t] = [tnP t] := by rw [tnsP, tnsP]
theorem tnsP2 (t u : Tn) : tnsP [t, u] = [tnP t, tnP u] := by rw [tnsP, tnsP1]
theorem tnsP_app (a b : List Tn) : tnsP (a ++ b) = tnsP a ++ tnsP b := by rw [tnsP_map, tnsP_map, tnsP_map, List.map_append]
theorem tnsH1 (t : Tn) : tnsH [t] = tnH t := by rw [tnsH, tnsH, List.append_nil]
theorem node_new {M : List Nat} {w0 w w' : World} {H H1 : List Ent} {K : List Ent → List Ent} {b kb n : Nat} {kd : Int} {ty tx : List UInt8} {nm pl : Int} (hst : St M w0 w H) (hs : St (wrs H) w w' H1) (ts : List Tn) (ps : List Pt) (hts : tnsOk ts) (hps : tnsP ts = ps) (hn : ts.length = n) (hl : n ≤ 1000)
  (hc : ∀ e, (K (⟨b, true, ndO kd ty tx nm pl (.slice (some ⟨kb, 0, none⟩) n n)⟩ :: ⟨kb, true, row (ptrs ts) 77⟩ :: tnsH ts)).count e ≤ H1.count e) :
  GivesS (fun t : Tn => ptr t.b) (fun t => tnOk t ∧ tnP t = hdP [.mk kd ty tx nm pl ps]) M w0 (fun t => K (tnH t)) (.returned (ptr b)) w' := by
 refine GivesS.ofC hst hs (.mk b kd ty tx nm pl (some (kb, n, (ptrs ts).toArray)) ts) ⟨?_, ?_⟩ rfl ?_
 ·rw [tnOk]
  exact ⟨⟨Nat.le_of_eq hn, Nat.le_trans hl Zf6, by simp [hn], by rw [Nat.mul_one, List.take_of_length_le Zgh], by simp⟩, hts⟩
 ·rw [tnP, hps]; rfl
 ·rw [tnH]
  subst hn
  exact hc
theorem node_leaf {M : List Nat} {w0 w w' : World} {H H1 : List Ent} {K : List Ent → List Ent} {b : Nat} {kd : Int} {ty tx : List UInt8} {nm pl : Int} (hst : St M w0 w H) (hs : St (wrs H) w w' H1)
  (hc : ∀ e, (K [⟨b, true, ndO kd ty tx nm pl (.slice none 0 0)⟩]).count e ≤ H1.count e) :
  GivesS (fun t : Tn => ptr t.b) (fun t => tnOk t ∧ tnP t = hdP [.mk kd ty tx nm pl []]) M w0 (fun t => K (tnH t)) (.returned (ptr b)) w' := by
 refine GivesS.ofC hst hs (.mk b kd ty tx nm pl none []) ⟨?_, ?_⟩ rfl ?_
 ·rw [tnOk]
  exact ⟨⟨rfl, rfl⟩, by rw [tnsOk]; trivial⟩
 ·rw [tnP, tnsP]; rfl
 ·rw [tnH, tnsH]
  exact hc
theorem typed_pred : PredE (fnV 58 [] []) typedT [] := ⟨_, _, rfl, has58, fun t _ _ => typed_ok t _⟩
theorem named_pred : PredE (fnV 59 [] []) namedT [] := ⟨_, _, rfl, has59, fun t _ _ => named_ok t _⟩
theorem whole_pred : PredE (fnV 196 [] []) wholeT [] := ⟨_, _, rfl, has196, fun t _ _ => whole_ok t _⟩
end Go.Proofs.YtbinaeemcidicaaGreatDoor
namespace Go.Proofs.YtbinaeemcidicaaGreatDoor
open Go.PB Go.RowKit
attribute [local irreducible] Go.Calls
theorem expr_step {f : Nat} (ihc : NodeC f .cond 136 []) (ihe : NodeC f .expr 99 []) : NodeC (f + 1) .expr 99 [] := by
 intro M w0 w H K TR r a lv L l l' o hst hu hT hm hl e
 (obtain ⟨A, p1, p2⟩ := hu.front; have hTA : ∀ e ∈ TR, e ∈ A := fun e he => mem_front p1 (hm e he) (hT.2.1 e he); have hst1 := hst.perm p1)
 rw [pF] at e
 rcases bnd_cases e with ⟨e1, rfl⟩ | ⟨ps, l1, e1, e⟩
 ·(refine Zc2 ?_; simp only [argL])
  repeat' (first | (apply gL; first | (apply Wl.ev rfl rfl; exact Zev) | (refine lC 7 136 ?_; first | (refine Zjq ?_; rintro ⟨pb, kd, ty, tx, nm, pl, ow, ks⟩ ⟨hok, hp⟩; have hkd := tn_kd hp) | (refine Zjr ?_; (first | refine bad_end ?_ | refine bad_endM ?_); intro w hs)) | apply Wl.nil) | (apply gQ; first | (apply Wq.ev rfl rfl; exact Zev)) | (apply lW; first | apply W.seq | apply W.region))
  all_goals first | exact BadS.ofC hst1 hs Zdc
 have a1 := hl.step e1
 by_cases hk : (hdP ps).kd = 19 ∨ (hdP ps).kd = 18
 ·rw [if_pos hk] at e
  rcases may_cases asgW l1 with ⟨t, l2, rfl, c⟩ | c
  ·rw [mayP_yes c] at e
   unfold asgW at c
   have a2 := a1.next
   rcases bnd_cases e with ⟨e2, rfl⟩ | ⟨qs, l3, e2, e⟩
   ·(refine Zc2 ?_; simp only [argL])
    repeat' (first | (apply gL; first | (apply Wl.ev rfl rfl; exact Zbp) | (refine lA 4 ?_; refine wl_alloc rfl rfl (zeroT rfl) ?_; intro b4) | (refine Zf8 ?_) | (refine lC 7 136 ?_; first | (refine Zjq ?_; rintro ⟨pb, kd, ty, tx, nm, pl, ow, ks⟩ ⟨hok, hp⟩; have hkd := tn_kd hp) | (refine Zjr ?_; (first | refine bad_end ?_ | refine bad_endM ?_); intro w hs)) | (refine lC 35 99 ?_; first | (refine wl_callS rfl rfl has99 rfl (fun w hs => node_ok ihe hs Zf5 Zf5 Zh hT Zm) ?_; rintro t2 ⟨hok2, hp2⟩) | (refine wl_callB0 rfl has99 rfl (fun w hs => node_bad ihe hs Zf5 Zf5 Zh hT Zm) ?_; (first | refine bad_end ?_ | refine bad_endM ?_); intro w hs)) | (refine lC 26 98 ?_; first | (refine Zjx ?_; intro q hq; clear hq q) | (refine Zjy ?_; intro q hq; clear hq q)) | apply Wl.nil | (refine Zbr ?_) | (apply wl_buildSlice rfl rfl (slT rfl) (szT rfl) (zeroT rfl) rfl Zf6 rfl; exact Zt; intro b) | ((fail_if_success (apply Wl.chk rfl)); refine Wl.split rfl rfl ?_ ?_ <;> (intro h; try exact Zg))) | (apply gQ; first | (apply Wq.ev rfl rfl; exact Zbp)) | (apply lW; first | apply W.seq | ((show W _ _ _ _ _ _ (.inl (.region 6 _ true) :: _) _ _); refine W.regionM [] [⟨b4, true, row (tiC t) 67⟩] [⟨b4, true, row (tiC t) 67⟩] mixed ?_) | apply W.region | apply W.skip | (refine Zbk ?_) | (refine Zbg ?_) | (refine Zz ?_ ?_ <;> (intro h; try exact Zg))) | ((show Wm _ _ _ _ _ _ _ _ _ _ _ _ _ _ _ _); first | ((refine Zgg ?_)) | (refine Zgq ?_) | (refine Zgs ?_) | (refine Zh4 ?_) | (refine Wm.take1 Zj rfl Zj Zk Zf6 rfl rfl Zbp Ze Ze ?_) | (refine Wm.take0 Zj rfl Zj Zk Zk Zf6 Zf6 rfl rfl Zbp Ze Ze ?_) | ((fail_if_success (refine Zbn ?_)); (refine Zgc ?_ ?_ <;> (intro h; try exact Zg))) | ((fail_if_success (refine Zbn ?_)); (refine Zga ?_ ?_ <;> (intro h; try exact Zg))) | apply Wm.next) | apply AllO.nil | apply AllO.cons | (refine Or.inl Zk) | ((show _ ∨ Wl _ _ _ _ _ _ _ _ _ _); apply Or.inr) | (refine Zg5 ?_))
    all_goals first | exact BadS.ofC hst1 hs Zdc | exact Zy
   ·cases e
    (refine Zc2 ?_; simp only [argL])
    repeat' (first | (apply gL; first | (apply Wl.ev rfl rfl; exact Zbp) | (refine lA 4 ?_; refine wl_alloc rfl rfl (zeroT rfl) ?_; intro b4) | (refine Zf8 ?_) | (refine lC 7 136 ?_; first | (refine Zjq ?_; rintro ⟨pb, kd, ty, tx, nm, pl, ow, ks⟩ ⟨hok, hp⟩; have hkd := tn_kd hp) | (refine Zjr ?_; (first | refine bad_end ?_ | refine bad_endM ?_); intro w hs)) | (refine lC 35 99 ?_; first | (refine wl_callS rfl rfl has99 rfl (fun w hs => node_ok ihe hs Zf5 Zf5 Zh hT Zm) ?_; rintro t2 ⟨hok2, hp2⟩) | (refine wl_callB0 rfl has99 rfl (fun w hs => node_bad ihe hs Zf5 Zf5 Zh hT Zm) ?_; (first | refine bad_end ?_ | refine bad_endM ?_); intro w hs)) | (refine lC 26 98 ?_; first | (refine Zjx ?_; intro q hq; clear hq q) | (refine Zjy ?_; intro q hq; clear hq q)) | (refine lC 37 93 ?_; refine wl_callS rfl rfl has93 rfl Zbm ?_; intro bn hq; clear hq) | apply Wl.nil | (refine Zbr ?_) | (apply wl_buildSlice rfl rfl (slT rfl) (szT rfl) (zeroT rfl) rfl Zf6 rfl; exact Zt; intro b) | ((fail_if_success (apply Wl.chk rfl)); refine Wl.split rfl rfl ?_ ?_ <;> (intro h; try exact Zg))) | (apply gQ; first | (apply Wq.ev rfl rfl; exact Zbp)) | (apply lW; first | apply W.seq | ((show W _ _ _ _ _ _ (.inl (.region 6 _ true) :: _) _ _); refine W.regionM [] [⟨b4, true, row (tiC t) 67⟩] [⟨b4, true, row (tiC t) 67⟩] mixed ?_) | apply W.region | apply W.skip | (refine Zbk ?_) | (refine Zbg ?_) | (refine Zz ?_ ?_ <;> (intro h; try exact Zg)) | (refine Zba ?_; intro w hs)) | ((show Wm _ _ _ _ _ _ _ _ _ _ _ _ _ _ _ _); first | ((refine Zgg ?_)) | (refine Zgq ?_) | (refine Zgs ?_) | (refine Zh4 ?_) | (refine Wm.take1 Zj rfl Zj Zk Zf6 rfl rfl Zbp Ze Ze ?_) | (refine Wm.take0 Zj rfl Zj Zk Zk Zf6 Zf6 rfl rfl Zbp Ze Ze ?_) | ((fail_if_success (refine Zbn ?_)); (refine Zgc ?_ ?_ <;> (intro h; try exact Zg))) | ((fail_if_success (refine Zbn ?_)); (refine Zga ?_ ?_ <;> (intro h; try exact Zg))) | apply Wm.next) | apply AllO.nil | apply AllO.cons | (refine Or.inl Zk) | ((show _ ∨ Wl _ _ _ _ _ _ _ _ _ _); apply Or.inr) | (refine Zg5 ?_))
    all_goals first | exact node_new (kb := b) (n := 2) hst1 hs [.mk pb kd ty tx nm pl ow ks, t2] _ (by simp only [tnsOk]; exact ⟨hok, hok2, trivial⟩) (by simp only [tnsP, hp, hp2]) rfl (show 2 ≤ 1000 by decide) Zb5 | exact Zy
  ·rw [mayP_no c] at e
   unfold asgW at c
   cases e
   (refine Zc2 ?_; simp only [argL])
   repeat' (first | (apply gL; first | (apply Wl.ev rfl rfl; exact Zbp) | (refine Zf8 ?_) | (refine lC 7 136 ?_; first | (refine Zjq ?_; rintro ⟨pb, kd, ty, tx, nm, pl, ow, ks⟩ ⟨hok, hp⟩; have hkd := tn_kd hp) | (refine Zjr ?_; (first | refine bad_end ?_ | refine bad_endM ?_); intro w hs)) | (refine lC 26 98 ?_; first | (refine Zjx ?_; intro q hq; clear hq q) | (refine Zjy ?_; intro q hq; clear hq q)) | apply Wl.nil | (refine Zbr ?_) | (refine Zbd ?_; intro b) | (apply wl_buildSlice rfl rfl (slT rfl) (szT rfl) (zeroT rfl) rfl Zf6 rfl; exact Zt; intro b) | ((fail_if_success (apply Wl.chk rfl)); refine Wl.split rfl rfl ?_ ?_ <;> (intro h; try exact Zg))) | (apply gQ; first | (apply Wq.ev rfl rfl; exact Zbp)) | (apply lW; first | apply W.seq | apply W.region | apply W.skip | (refine Zbg ?_) | (refine Zz ?_ ?_ <;> (intro h; try exact Zg)) | (refine Zba ?_; intro w hs)))
   all_goals first | exact GivesS.ofC hst1 hs (.mk pb kd ty tx nm pl ow ks) ⟨hok, hp⟩ rfl Zdc | exact Zy
 ·rw [if_neg hk] at e
  cases e
  (refine Zc2 ?_; simp only [argL])
  repeat' (first | (apply gL; first | (apply Wl.ev rfl rfl; exact Zbp) | (refine lC 7 136 ?_; first | (refine Zjq ?_; rintro ⟨pb, kd, ty, tx, nm, pl, ow, ks⟩ ⟨hok, hp⟩; have hkd := tn_kd hp) | (refine Zjr ?_; (first | refine bad_end ?_ | refine bad_endM ?_); intro w hs)) | apply Wl.nil | ((fail_if_success (apply Wl.chk rfl)); refine Wl.split rfl rfl ?_ ?_ <;> (intro h; try exact Zg))) | (apply gQ; first | (apply Wq.ev rfl rfl; exact Zbp)) | (apply lW; first | apply W.seq | apply W.region | (refine Zz ?_ ?_ <;> (intro h; try exact Zg)) | (refine Zba ?_; intro w hs)))
  all_goals first | exact GivesS.ofC hst1 hs (.mk pb kd ty tx nm pl ow ks) ⟨hok, hp⟩ rfl Zdc | exact Zy
end Go.Proofs.YtbinaeemcidicaaGreatDoor
