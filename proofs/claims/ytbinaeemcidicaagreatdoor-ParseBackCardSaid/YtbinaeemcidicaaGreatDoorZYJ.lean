/- Trees as rows of nodes, and which may be: in plain Lean. No condition. -/
import Derived.Test.YtbinaeemcidicaaGreatDoorZPM
import Derived.Test.YtbinaeemcidicaaGreatDoorZCut
import Derived.Test.YtbinaeemcidicaaGreatDoorZCn
set_option maxHeartbeats 16000000
namespace Go.Proofs.YtbinaeemcidicaaGreatDoor
def fitsK (w : Nat) (kd : Int) : Bool :=
 if w = 0 then decide (kd = 2) || decide (kd = 4)
 else if w = 1 then decide (kd = 3)
 else if w = 2 then decide (kd = 5)
 else if w = 3 then decide (kd = 6)
 else if w = 4 then decide (kd = 2) || (decide (6 ≤ kd) && decide (kd ≤ 12))
 else if w = 6 then decide (kd = 20)
 else decide (13 ≤ kd) && decide (kd ≤ 22)
def kindsK (kd : Int) (k : Nat) : Option (List Nat) :=
 if kd = 1 then some (List.replicate k 0)
 else if kd = 2 then if 0 < k then some (List.replicate k 1) else none
 else if kd = 3 ∨ kd = 9 then if k ≤ 1 then some (List.replicate k 5) else none
 else if kd = 4 then if k = 0 then none else some (List.replicate (k - 1) 2 ++ [3])
 else if kd = 6 then some (List.replicate k 4)
 else if kd = 7 then if k = 2 ∨ k = 3 then some ([5, 4, 4].take k) else none
 else if kd = 8 then if k = 3 then some [6, 6, 4] else none
 else if kd = 11 ∨ kd = 16 ∨ kd = 18 then if k = 1 then some (List.replicate k 5) else none
 else if kd = 13 ∨ kd = 15 then if k = 2 then some (List.replicate k 5) else none
 else if kd = 14 then if k = 3 then some (List.replicate k 5) else none
 else if kd = 17 then some (List.replicate k 5)
 else if k = 0 then some [] else none
def saidA (n : Nd) : Bool :=
 let typed := decide (n.kd = 2) || decide (n.kd = 4) || decide (n.kd = 5)
 (typed == isTyp n.ty) && (typed || n.ty.isEmpty) && decide (0 ≤ n.pl) && (decide (n.nm = 0) || decide (n.kd = 20) || decide (n.kd = 21))
def saidT (n : Nd) (loc wide : Bool) : Bool :=
 if n.kd = 1 ∨ n.kd = 6 ∨ n.kd = 7 ∨ n.kd = 9 ∨ n.kd = 10 ∨ n.kd = 11 ∨ n.kd = 12 ∨ n.kd = 14 then n.tx.isEmpty
 else if n.kd = 2 then n.tx.isEmpty || decide (n.tx = [99, 111, 110, 115, 116]) || (isQua n.tx && !loc)
 else if n.kd = 3 ∨ n.kd = 4 ∨ n.kd = 5 ∨ n.kd = 8 ∨ n.kd = 18 ∨ n.kd = 19 then namB n.tx
 else if n.kd = 17 then namB n.tx || isTyp n.tx
 else if n.kd = 13 then asgW.contains n.tx
 else if n.kd = 16 then decide (n.tx = [45]) || decide (n.tx = [33])
 else if n.kd = 15 then [levW 0, levW 1, levW 2, levW 3, levW 4, levW 5].any fun s => s.contains n.tx
 else if n.kd = 20 then n.tx.isEmpty && decide (n.nm % 65536 = 0) && decide (-2147483648 < n.nm) && (wide || decide (0 ≤ n.nm))
 else if n.kd = 21 then n.tx.isEmpty && decide (0 ≤ n.nm)
 else if n.kd = 22 then decide (n.tx = [116, 114, 117, 101]) || decide (n.tx = [102, 97, 108, 115, 101])
 else false
def saidK (n : Nd) (loc wide : Bool) : Bool := saidA n && saidT n loc wide
def chkK (f : Bool → Nat → Option (Pt × Nat)) (l : List Nd) : List Nat → List Int → Nat → Option (List Pt × Nat)
 | w :: ws, k :: ks, nx => if k ≠ (nx : Int) ∨ l.length ≤ nx ∨ fitsK w (l.getD nx nd0).kd = false then none else
  match f (decide (w = 6)) nx with
  | none => none
  | some (q, nx') => (chkK f l ws ks nx').map fun r => (q :: r.1, r.2)
 | _, _, nx => some ([], nx)
def lastK (n : Nd) (qs : List Pt) : Bool := (decide (n.kd = 7) && decide (qs.length = 3) && opnP (qs.getD 1 pt0)) || (decide (n.kd = 13) && decide ((qs.getD 0 pt0).kd ≠ 19) && decide ((qs.getD 0 pt0).kd ≠ 18))
def chkN (l : List Nd) : Nat → Bool → Bool → Nat → Option (Pt × Nat)
 | 0, _, _, _ => none
 | b + 1, loc, wide, i => if l.length ≤ i then none else
  let n := l.getD i nd0
  match kindsK n.kd n.ks.length with
  | none => none
  | some ws => if saidK n loc wide = false then none else
   match chkK (chkN l b (loc || decide (n.kd = 4))) l ws n.ks (i + 1) with
   | none => none
   | some (qs, nx) => if lastK n qs = true then none else some (.mk n.kd n.ty n.tx n.nm n.pl qs, nx)
end Go.Proofs.YtbinaeemcidicaaGreatDoor
namespace Go.Proofs.YtbinaeemcidicaaGreatDoor
mutual
def plP : Pt → Prop
 | .mk _ _ _ _ pl ks => 0 ≤ pl ∧ plL ks
def plL : List Pt → Prop
 | [] => True
 | p :: l => plP p ∧ plL l
end
def WKP (w : Nat) (q : Pt) : Prop :=
 if w = 0 then WT q else if w = 1 then WV q else if w = 2 then WM q else if w = 3 then WS q ∧ q.kd = 6 else if w = 4 then WS q else if w = 6 then ∃ x, q = .mk 20 [] [] x 0 [] ∧ WB x else WE q
mutual
theorem opn_er : ∀ p : Pt, opnP (erP p) = opnP p
 | .mk kd ty tx nm pl ks => by
  rw [erP, opnP, opnP, opnL_er ks, show (erL ks).length = ks.length by rw [erL_map, List.length_map]]
theorem opnL_er : ∀ l : List Pt, opnL (erL l) = opnL l
 | [] => by rw [erL]
 | p :: l => by rw [erL, opnL, opnL, opn_er p, opnL_er l]
end
end Go.Proofs.YtbinaeemcidicaaGreatDoor
namespace Go.Proofs.YtbinaeemcidicaaGreatDoor
mutual
def rgP : Pt → Prop
 | .mk _ _ _ nm pl ks => 0 ≤ pl ∧ (-2147483648 ≤ nm ∧ nm ≤ 2147483647) ∧ rgL ks
def rgL : List Pt → Prop
 | [] => True
 | p :: l => rgP p ∧ rgL l
end
theorem rgL_all : ∀ l : List Pt, rgL l ↔ ∀ p ∈ l, rgP p
 | [] => by rw [rgL]; simp
 | p :: l => by rw [rgL, rgL_all l]; simp
def rgT (t : Ti) : Prop := 0 ≤ t.a ∧ 0 ≤ t.x ∧ t.x ≤ 2147483647
def plG (l : List Ti) : Prop := ∀ t ∈ l, rgT t
def plN : Nt → Prop
 | .binL _ p => rgP p
 | .fld p => rgP p
 | .args l => rgL l
 | .stms l => rgL l
 | .decl a _ _ => 0 ≤ a
 | .vars l => rgL l
 | .varE l v => rgL l ∧ rgP v
 | .func w => 0 ≤ w.a
 | .parL l => rgL l
 | .shad l => rgL l
 | _ => True
def PlR (r : Rp) : Prop := ∀ ps l, r = some (some ps, l) → rgL ps ∧ plG l
theorem plG.suf {l l' : List Ti} (h : plG l) (hs : l' <:+ l) : plG l' := fun t ht => h t (hs.subset ht)
theorem rgL_app {a b : List Pt} (ha : rgL a) (hb : rgL b) : rgL (a ++ b) := (rgL_all _).2 fun p hp => (List.mem_append.1 hp).elim ((rgL_all a).1 ha p) ((rgL_all b).1 hb p)
theorem rgL_one {p : Pt} (h : rgP p) : rgL [p] := (rgL_all _).2 fun q hq => by rw [List.mem_singleton.1 hq]; exact h
theorem rgL_two {p q : Pt} (h : rgP p) (h2 : rgP q) : rgL [p, q] := rgL_app (rgL_one h) (rgL_one h2)
theorem rgL_three {p q r : Pt} (h : rgP p) (h2 : rgP q) (h3 : rgP r) : rgL [p, q, r] := rgL_app (rgL_one h) (rgL_two h2 h3)
theorem rgL_nil : rgL [] := (rgL_all _).2 fun _ h => by cases h
theorem rgL_hd {l : List Pt} (h : rgL l) : rgP (hdP l) := by
 cases l with
 | nil => unfold hdP pt0; rw [show ([] : List Pt).headD (Pt.mk 0 [] [] 0 0 []) = Pt.mk 0 [] [] 0 0 [] from rfl, rgP]; exact ⟨Int.le_refl 0, by decide, rgL_nil⟩
 | cons p l => exact (rgL_all _).1 h p (List.mem_cons_self ..)
theorem rgP_mk {kd : Int} {ty tx : List UInt8} {nm pl : Int} {ks : List Pt} (h : 0 ≤ pl) (hn : -2147483648 ≤ nm ∧ nm ≤ 2147483647) (hk : rgL ks) : rgP (.mk kd ty tx nm pl ks) := by rw [rgP]; exact ⟨h, hn, hk⟩
theorem plG_hd {l : List Ti} (h : plG l) : 0 ≤ (l.headD ti0).a := by
 cases l with
 | nil => exact Int.le_refl 0
 | cons t l => exact (h t (List.mem_cons_self ..)).1
theorem plG_drop {l : List Ti} (h : plG l) (k : Nat) : plG (l.drop k) := h.suf (List.drop_suffix k l)
theorem plr_ok {ps : List Pt} {l : List Ti} (h : rgL ps) (hl : plG l) : PlR (okP ps l) := fun ps' l' e => by cases e; exact ⟨h, hl⟩
theorem plr_bad {l : List Ti} : PlR (badP l) := fun ps' l' e => by cases e
theorem plr_bnd {r : Rp} {k : List Pt → List Ti → Rp} (hr : PlR r) (h : ∀ ps l, rgL ps → plG l → PlR (k ps l)) : PlR (bndP r k) := fun ps' l' e => by
 unfold bndP at e
 cases r with
 | none => cases e
 | some y =>
  obtain ⟨o, l⟩ := y
  cases o with
  | none => cases e
  | some ps =>
   obtain ⟨h1, h2⟩ := hr ps l rfl
   exact h ps l h1 h2 ps' l' e
theorem plr_tk {p : Ti → Bool} {l : List Ti} {k : Ti → List Ti → Rp} (hl : plG l) (h : ∀ t l, rgT t → plG l → PlR (k t l)) : PlR (tkP p l k) := by
 unfold tkP
 cases l with
 | nil => exact plr_bad
 | cons t l =>
  dsimp only
  split
  ·exact h t l (hl t (List.mem_cons_self ..)) (hl.suf (List.suffix_cons t l))
  ·exact plr_bad
theorem plr_may {s : List (List UInt8)} {l : List Ti} {k : Ti → List Ti → Rp} {e : Rp} (hl : plG l) (h : ∀ t l, rgT t → plG l → PlR (k t l)) (he : PlR e) : PlR (mayP s l k e) := by
 unfold mayP
 cases l with
 | nil => exact he
 | cons t l =>
  dsimp only
  split
  ·exact h t l (hl t (List.mem_cons_self ..)) (hl.suf (List.suffix_cons t l))
  ·exact he
theorem plr_ite {P : Prop} [Decidable P] {a b : Rp} (ha : PlR a) (hb : PlR b) : PlR (if P then a else b) := by
 split
 ·exact ha
 ·exact hb
theorem plG_nil : plG [] := fun _ h => by cases h
theorem pl_binL {k : Nat} {ty tx : List UInt8} {nm a kd : Int} {ks : List Pt} (h : 0 ≤ a) (hn : -2147483648 ≤ nm ∧ nm ≤ 2147483647) (h2 : rgL ks) : plN (.binL k (.mk kd ty tx nm a ks)) := (rgP_mk h hn h2 : rgP (.mk kd ty tx nm a ks))
theorem pl_fld {ty tx : List UInt8} {nm a kd : Int} {ks : List Pt} (h : 0 ≤ a) (hn : -2147483648 ≤ nm ∧ nm ≤ 2147483647) (h2 : rgL ks) : plN (.fld (.mk kd ty tx nm a ks)) := (rgP_mk h hn h2 : rgP (.mk kd ty tx nm a ks))
theorem rgT.a' {t : Ti} (h : rgT t) : 0 ≤ t.a := h.1
theorem rgT.x' {t : Ti} (h : rgT t) : -2147483648 ≤ t.x ∧ t.x ≤ 2147483647 := ⟨by have := h.2.1; omega, h.2.2⟩
theorem rgT.m' {t : Ti} (h : rgT t) : -2147483648 ≤ -t.x ∧ -t.x ≤ 2147483647 := ⟨by have := h.2.2; omega, by have := h.2.1; omega⟩
theorem pF_pl : ∀ (f : Nat) (n : Nt) (l : List Ti), plG l → plN n → PlR (pF f n l)
 | 0, n, l => fun _ _ => by rw [pF]; exact fun _ _ e => by cases e
 | f + 1, n, l => fun hl hn => by
  have ih : ∀ {n : Nt} {l : List Ti}, plG l → plN n → PlR (pF f n l) := fun h1 h2 => pF_pl f _ _ h1 h2
  have hb : ∀ k, plN (binN k) := fun k => by unfold binN; split <;> trivial
  cases n <;> (rw [pF]; repeat' (first
   | (refine plr_bnd ?_ fun ps l hps hl => ?_)
   | (refine plr_tk ?_ fun t l ht hl => ?_)
   | (refine plr_may ?_ (fun t l ht hl => ?_) ?_)
   | (refine plr_ite ?_ ?_)
   | (refine plr_ok ?_ ?_) | exact plr_bad
   | exact ih Zf5 (hb _)
   | (refine pl_binL ?_ ?_ ?_)
   | exact plG_nil
   | (refine ih ?_ ?_)
   | assumption
   | trivial
   | (show rgP (Pt.mk _ _ _ _ _ _); refine rgP_mk ?_ ?_ ?_)
   | (show rgL _ ∧ rgP _; refine And.intro ?_ ?_)
   | exact (fun _ h => by cases h : plG [])
   | exact rgL_nil
   | exact (by decide : (-2147483648 : Int) ≤ 0 ∧ (0 : Int) ≤ 2147483647)
   | exact rgT.a' Zf5
   | exact rgT.x' Zf5
   | exact rgT.m' Zf5
   | (refine pl_fld ?_ ?_ ?_)
   | exact plG_hd Zf5
   | (refine plG_drop ?_ _)
   | exact rgL_hd Zf5
   | exact hn.1 | exact hn.2
   | (refine rgL_app ?_ ?_) | (refine rgL_three ?_ ?_ ?_) | (refine rgL_two ?_ ?_) | (refine rgL_one ?_) | (refine rgP_mk ?_ ?_ ?_)))
end Go.Proofs.YtbinaeemcidicaaGreatDoor
namespace Go.Proofs.YtbinaeemcidicaaGreatDoor
def KidsOk (L : Bool) (ws : List Nat) (K : List Pt) : Prop := ws.length = K.length ∧ ∀ j, j < K.length → WKP (ws.getD j 0) (K.getD j pt0) ∧ (ws.getD j 0 = 0 → L = false) ∧ (ws.getD j 0 = 3 ∨ ws.getD j 0 = 4 → L = true)
theorem KidsOk.nil {L : Bool} : KidsOk L [] [] := ⟨rfl, fun j hj => by simp at hj⟩
theorem KidsOk.cons {L : Bool} {w : Nat} {ws : List Nat} {p : Pt} {K : List Pt} (h : WKP w p) (c0 : w = 0 → L = false) (c3 : w = 3 ∨ w = 4 → L = true) (t : KidsOk L ws K) : KidsOk L (w :: ws) (p :: K) := by
 refine ⟨by simp [t.1], fun j hj => ?_⟩
 cases j with
 | zero => exact ⟨h, c0, c3⟩
 | succ j => exact t.2 j Zmg
theorem KidsOk.all {L : Bool} {w m : Nat} {K : List Pt} (hm : m = K.length) (h : ∀ p ∈ K, WKP w p) (c0 : w = 0 → L = false) (c3 : w = 3 ∨ w = 4 → L = true) : KidsOk L (List.replicate m w) K := by
 subst hm
 induction K with
 | nil => exact .nil
 | cons p K ih => exact .cons (h p (List.mem_cons_self ..)) c0 c3 (ih fun q hq => h q (List.mem_cons_of_mem _ hq))
theorem KidsOk.app {L : Bool} {ws us : List Nat} {K M : List Pt} (h : KidsOk L ws K) (h2 : KidsOk L us M) : KidsOk L (ws ++ us) (K ++ M) := by
 refine ⟨by simp [h.1, h2.1], fun j hj => ?_⟩
 by_cases hjk : j < K.length
 ·have := h.2 j hjk
  rw [show (ws ++ us).getD j 0 = ws.getD j 0 by simp only [List.getD]; rw [List.getElem?_append_left (by rw [h.1]; exact hjk)], show (K ++ M).getD j pt0 = K.getD j pt0 by simp only [List.getD]; rw [List.getElem?_append_left hjk]]
  exact this
 ·have := h2.2 (j - K.length) (by rw [List.length_append] at hj; omega)
  rw [show (ws ++ us).getD j 0 = us.getD (j - K.length) 0 by simp only [List.getD]; rw [List.getElem?_append_right (by rw [h.1]; omega), h.1], show (K ++ M).getD j pt0 = M.getD (j - K.length) pt0 by simp only [List.getD]; rw [List.getElem?_append_right Zf7]]
  exact this
theorem sA_no {kd nm pl : Int} {tx : List UInt8} {ks : List Int} (h : ¬(kd = 2 ∨ kd = 4 ∨ kd = 5)) (hp : 0 ≤ pl) (hn : nm = 0 ∨ kd = 20 ∨ kd = 21) : saidA ⟨kd, [], tx, nm, ks, pl⟩ = true := by
 have e : isTyp [] = false := by decide
 unfold saidA
 simp only [not_or] at h
 simp [h.1, h.2.1, h.2.2, e, hp, hn, or_assoc]
theorem sA_ty {kd pl : Int} {ty tx : List UInt8} {ks : List Int} (h : kd = 2 ∨ kd = 4 ∨ kd = 5) (ht : isTyp ty = true) (hp : 0 ≤ pl) : saidA ⟨kd, ty, tx, 0, ks, pl⟩ = true := by
 unfold saidA
 rcases h with rfl | rfl | rfl <;> simp [ht, hp]
theorem sK_of {n : Nd} {loc wide : Bool} (h : saidA n = true) (h2 : saidT n loc wide = true) : saidK n loc wide = true := by unfold saidK; rw [h, h2]; rfl
def InvOk (n : Nd) (loc wide : Bool) (K : List Pt) : Prop := ∃ ws, kindsK n.kd K.length = some ws ∧ saidK n loc wide = true ∧ lastK n K = false ∧ KidsOk (loc || decide (n.kd = 4)) ws K
theorem WE_w {w : Nat} {p : Pt} (h : WE p) (c0 : w ≠ 0) (c1 : w ≠ 1) (c2 : w ≠ 2) (c3 : w ≠ 3) (c4 : w ≠ 4) (c6 : w ≠ 6) : WKP w p := by
 unfold WKP
 rw [if_neg c0, if_neg c1, if_neg c2, if_neg c3, if_neg c4, if_neg c6]
 exact h
theorem WE5 {p : Pt} (h : WE p) : WKP 5 p := WE_w h Zf6 Zf6 Zf6 Zf6 Zf6 Zf6
section
variable {kd pl : Int} {nm : Int} {ty tx : List UInt8} {K : List Pt} {loc : Bool} {ksI : List Int}
theorem inv_decl {wide : Bool} {l : List Pt} (hpl : 0 ≤ pl) (ht : isTyp ty = true) (hne : l ≠ []) (hv : ∀ v ∈ l, WV v) (htx : tx = [] ∨ tx = [99, 111, 110, 115, 116] ∨ (isQua tx = true ∧ loc = false)) : InvOk ⟨2, ty, tx, 0, ksI, pl⟩ loc wide l := by
 refine ⟨List.replicate l.length 1, ?_, sK_of (sA_ty (.inl rfl) ht hpl) ?_, by unfold lastK; simp, .all rfl hv (fun e => by cases e) (fun e => by omega)⟩
 ·unfold kindsK
  dsimp only
  rw [if_neg Zf6, if_pos rfl, if_pos (List.length_pos_iff.2 hne)]
 ·unfold saidT
  dsimp only
  rw [if_neg Zf6, if_pos rfl]
  rcases htx with rfl | rfl | ⟨h, h2⟩
  ·rfl
  ·rfl
  ·simp [h, h2]
theorem inv_kid5 {n : Nd} {wide : Bool} {l : List Pt} (hk : kindsK n.kd l.length = some (List.replicate l.length 5)) (hs : saidK n loc wide = true) (hl : lastK n l = false) (h : ∀ p ∈ l, WE p) : InvOk n loc wide l :=
 ⟨_, hk, hs, hl, .all rfl (fun p hp => WE5 (h p hp)) (fun e => by cases e) (fun e => by omega)⟩
theorem mem1 {P : Pt → Prop} {a : Pt} (h : P a) : ∀ p ∈ [a], P p := fun p hp => by rw [List.mem_singleton.1 hp]; exact h
theorem mem2 {P : Pt → Prop} {a b : Pt} (h : P a) (h2 : P b) : ∀ p ∈ [a, b], P p := fun p hp => by
 rcases List.mem_cons.1 hp with rfl | hp
 ·exact h
 ·exact mem1 h2 p hp
theorem mem3 {P : Pt → Prop} {a b c : Pt} (h : P a) (h2 : P b) (h3 : P c) : ∀ p ∈ [a, b, c], P p := fun p hp => by
 rcases List.mem_cons.1 hp with rfl | hp
 ·exact h
 ·exact mem2 h2 h3 p hp
theorem inv_E {q : Pt} (h : WE q) {wide : Bool} (hq : q = .mk kd ty tx nm 0 K) (hpl : 0 ≤ pl) : InvOk ⟨kd, ty, tx, nm, ksI, pl⟩ loc wide K := by
 cases h with
 | @asg tx a b ht hk ha hb =>
  cases hq
  refine inv_kid5 rfl (sK_of (sA_no Zf6 hpl (.inl rfl)) ?_) ?_ (mem2 ha hb)
  ·unfold saidT; simp [ht]
  ·unfold lastK; rcases hk with e | e <;> simp [e]
 | @cond a b c ha hb hc =>
  cases hq
  exact inv_kid5 rfl (sK_of (sA_no Zf6 hpl (.inl rfl)) Zej) Ze3 (mem3 ha hb hc)
 | @bin k tx a b hk ht ha hb =>
  cases hq
  refine inv_kid5 rfl (sK_of (sA_no Zf6 hpl (.inl rfl)) ?_) Ze3 (mem2 ha hb)
  unfold saidT
  dsimp only
  rw [if_neg Zf6, if_neg Zf6, if_neg Zf6, if_neg Zf6, if_neg Zf6, if_neg Zf6, if_pos rfl]
  have c : k = 0 ∨ k = 1 ∨ k = 2 ∨ k = 3 ∨ k = 4 ∨ k = 5 := by omega
  simp only [List.any_cons, List.any_nil, Bool.or_false, Bool.or_eq_true, List.contains_iff_mem]
  rcases c with rfl | rfl | rfl | rfl | rfl | rfl <;> simp [ht]
 | @un tx a ht ha =>
  cases hq
  refine inv_kid5 rfl (sK_of (sA_no Zf6 hpl (.inl rfl)) ?_) Ze3 (mem1 ha)
  unfold saidT
  simp only [List.mem_cons, List.mem_nil_iff, or_false] at ht
  simp [ht]
 | @call tx l ht hl =>
  cases hq
  refine inv_kid5 ?_ (sK_of (sA_no Zf6 hpl (.inl rfl)) ?_) Ze3 hl
  ·unfold kindsK; simp
  ·unfold saidT; simp [ht]
 | @fld tx a ht ha =>
  cases hq
  exact inv_kid5 rfl (sK_of (sA_no Zf6 hpl (.inl rfl)) Zl4) Ze3 (mem1 ha)
 | @nam tx ht =>
  cases hq
  exact ⟨[], rfl, sK_of (sA_no Zf6 hpl (.inl rfl)) Zl4, by unfold lastK; simp, .nil⟩
 | @int x h0 hm =>
  cases hq
  exact ⟨[], rfl, sK_of (sA_no Zf6 hpl (.inr (.inl rfl))) (by unfold saidT; simp; omega), by unfold lastK; simp, .nil⟩
 | @flt x h0 =>
  cases hq
  exact ⟨[], rfl, sK_of (sA_no Zf6 hpl (.inr (.inr rfl))) (by unfold saidT; simp; omega), by unfold lastK; simp, .nil⟩
 | @boo tx ht =>
  cases hq
  refine ⟨[], rfl, sK_of (sA_no Zf6 hpl (.inl rfl)) ?_, by unfold lastK; simp, .nil⟩
  unfold saidT
  simp only [List.mem_cons, List.mem_nil_iff, or_false] at ht
  simp [ht]
theorem inv_S {q : Pt} (h : WS q) {wide : Bool} (hq : q = .mk kd ty tx nm 0 K) (hpl : 0 ≤ pl) (hloc : loc = true) : InvOk ⟨kd, ty, tx, nm, ksI, pl⟩ loc wide K := by
 subst hloc
 cases h with
 | @blk l hl =>
  cases hq
  exact ⟨List.replicate K.length 4, by unfold kindsK; simp, sK_of (sA_no Zf6 hpl (.inl rfl)) Zej, by unfold lastK; simp, .all rfl hl (fun e => by cases e) (fun _ => rfl)⟩
 | @decl ty tx l ht hty hne hv =>
  cases hq
  exact inv_decl hpl hty hne hv (ht.elim .inl fun e => .inr (.inl e))
 | @if2 a s ha hs =>
  cases hq
  exact ⟨[5, 4], rfl, sK_of (sA_no Zf6 hpl (.inl rfl)) Zej, by unfold lastK; simp, .cons (WE5 ha) (fun e => by cases e) (fun _ => rfl) (.cons hs (fun e => by cases e) (fun _ => rfl) .nil)⟩
 | @if3 a s t ha hs ho ht =>
  cases hq
  exact ⟨[5, 4, 4], rfl, sK_of (sA_no Zf6 hpl (.inl rfl)) Zej, by unfold lastK; simp [ho], .cons (WE5 ha) (fun e => by cases e) (fun _ => rfl) (.cons hs (fun e => by cases e) (fun _ => rfl) (.cons ht (fun e => by cases e) (fun _ => rfl) .nil))⟩
 | @«for» tx x y s ht hx hy hs =>
  cases hq
  exact ⟨[6, 6, 4], rfl, sK_of (sA_no Zf6 hpl (.inl rfl)) Zl4, by unfold lastK; simp, .cons ⟨x, rfl, hx⟩ (fun e => by cases e) (fun _ => rfl) (.cons ⟨y, rfl, hy⟩ (fun e => by cases e) (fun _ => rfl) (.cons hs (fun e => by cases e) (fun _ => rfl) .nil))⟩
 | ret0 =>
  cases hq
  exact ⟨[], rfl, sK_of (sA_no Zf6 hpl (.inl rfl)) Zej, by unfold lastK; simp, .nil⟩
 | @ret1 a ha =>
  cases hq
  exact inv_kid5 rfl (sK_of (sA_no Zf6 hpl (.inl rfl)) Zej) Ze3 (mem1 ha)
 | disc =>
  cases hq
  exact ⟨[], rfl, sK_of (sA_no Zf6 hpl (.inl rfl)) Zej, by unfold lastK; simp, .nil⟩
 | @exp a ha =>
  cases hq
  exact inv_kid5 rfl (sK_of (sA_no Zf6 hpl (.inl rfl)) Zej) Ze3 (mem1 ha)
 | emp =>
  cases hq
  exact ⟨[], rfl, sK_of (sA_no Zf6 hpl (.inl rfl)) Zej, by unfold lastK; simp, .nil⟩
theorem inv_T {q : Pt} (h : WT q) {wide : Bool} (hq : q = .mk kd ty tx nm 0 K) (hpl : 0 ≤ pl) (hloc : loc = false) : InvOk ⟨kd, ty, tx, nm, ksI, pl⟩ loc wide K := by
 subst hloc
 cases h with
 | @decl ty tx l ht hty hne hv =>
  cases hq
  exact inv_decl hpl hty hne hv (ht.elim .inl fun e => .inr (.inr ⟨e, rfl⟩))
 | @func ty tx ps l hty hn hps hl =>
  cases hq
  refine ⟨List.replicate ps.length 2 ++ [3], ?_, sK_of (sA_ty (.inr (.inl rfl)) hty hpl) (by unfold saidT; simp [hn]), by unfold lastK; simp, .app (.all rfl hps (fun e => by cases e) (fun e => by omega)) (.cons ⟨.blk hl, rfl⟩ (fun e => by cases e) (fun _ => rfl) .nil)⟩
  unfold kindsK
  simp
theorem inv_W {w : Nat} {q : Pt} (h : WKP w q) (hq : q = .mk kd ty tx nm 0 K) (hpl : 0 ≤ pl) (h0 : w = 0 → loc = false) (h34 : w = 3 ∨ w = 4 → loc = true) : InvOk ⟨kd, ty, tx, nm, ksI, pl⟩ loc (decide (w = 6)) K := by
 unfold WKP at h
 by_cases c0 : w = 0
 ·rw [if_pos c0] at h; exact inv_T h hq hpl (h0 c0)
 rw [if_neg c0] at h
 by_cases c1 : w = 1
 ·rw [if_pos c1] at h
  cases h with
  | @v0 tx ht =>
   cases hq
   exact ⟨[], rfl, sK_of (sA_no Zf6 hpl (.inl rfl)) Zl4, by unfold lastK; simp, .nil⟩
  | @v1 tx e ht he =>
   cases hq
   exact inv_kid5 rfl (sK_of (sA_no Zf6 hpl (.inl rfl)) Zl4) Ze3 (mem1 he)
 rw [if_neg c1] at h
 by_cases c2 : w = 2
 ·rw [if_pos c2] at h
  cases h with
  | @mk ty tx ht hn =>
   cases hq
   exact ⟨[], rfl, sK_of (sA_ty (.inr (.inr rfl)) ht hpl) (by unfold saidT; simp [hn]), by unfold lastK; simp, .nil⟩
 rw [if_neg c2] at h
 by_cases c3 : w = 3
 ·rw [if_pos c3] at h; exact inv_S h.1 hq hpl (h34 (.inl c3))
 rw [if_neg c3] at h
 by_cases c4 : w = 4
 ·rw [if_pos c4] at h; exact inv_S h hq hpl (h34 (.inr c4))
 rw [if_neg c4] at h
 by_cases c6 : w = 6
 ·rw [if_pos c6] at h
  obtain ⟨x, hx, hb⟩ := h
  rw [hx] at hq
  cases hq
  cases hb with
  | mk b1 b2 => exact ⟨[], rfl, sK_of (sA_no Zf6 hpl (.inr (.inl rfl))) (by unfold saidT; simp [c6]; omega), by unfold lastK; simp, .nil⟩
 rw [if_neg c6] at h
 exact inv_E h hq hpl
end
end Go.Proofs.YtbinaeemcidicaaGreatDoor
