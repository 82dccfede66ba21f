/- Tokens as they come in. No condition. -/
import Derived.Test.YtbinaeemcidicaaGreatDoorZL3
set_option maxHeartbeats 16000000
namespace Go.Proofs.YtbinaeemcidicaaGreatDoor
structure Ti where
 k : Int
 t : List UInt8
 x : Int
 a : Int
 n : Int
end Go.Proofs.YtbinaeemcidicaaGreatDoor
namespace Go.Proofs.YtbinaeemcidicaaGreatDoor
inductive Pt where
 | mk (kd : Int) (ty tx : List UInt8) (nm : Int) (pl : Int) (ks : List Pt)
namespace Pt
def kd : Pt → Int | mk k _ _ _ _ _ => k
def ty : Pt → List UInt8 | mk _ t _ _ _ _ => t
def tx : Pt → List UInt8 | mk _ _ t _ _ _ => t
def nm : Pt → Int | mk _ _ _ n _ _ => n
def pl : Pt → Int | mk _ _ _ _ a _ => a
def ks : Pt → List Pt | mk _ _ _ _ _ l => l
end Pt
def pt0 : Pt := .mk 0 [] [] 0 0 []
def hdP (l : List Pt) : Pt := l.headD pt0
def ti0 : Ti := ⟨0, [], 0, 0, 0⟩
def typW : List (List UInt8) := [[118, 111, 105, 100], [102, 108, 111, 97, 116], [118, 101, 99, 50], [118, 101, 99, 51], [118, 101, 99, 52], [105, 110, 116], [105, 118, 101, 99, 50], [105, 118, 101, 99, 51], [105, 118, 101, 99, 52], [98, 111, 111, 108], [98, 118, 101, 99, 50], [98, 118, 101, 99, 51], [98, 118, 101, 99, 52], [115, 97, 109, 112, 108, 101, 114, 50, 68]]
def quaW : List (List UInt8) := [[97, 116, 116, 114, 105, 98, 117, 116, 101], [117, 110, 105, 102, 111, 114, 109], [118, 97, 114, 121, 105, 110, 103], [99, 111, 110, 115, 116]]
def resW : List (List UInt8) := [[105, 102], [101, 108, 115, 101], [102, 111, 114], [114, 101, 116, 117, 114, 110], [100, 105, 115, 99, 97, 114, 100], [116, 114, 117, 101], [102, 97, 108, 115, 101], [119, 104, 105, 108, 101], [100, 111], [98, 114, 101, 97, 107], [99, 111, 110, 116, 105, 110, 117, 101], [105, 110], [111, 117, 116], [105, 110, 111, 117, 116], [115, 116, 114, 117, 99, 116], [112, 114, 101, 99, 105, 115, 105, 111, 110], [108, 111, 119, 112], [109, 101, 100, 105, 117, 109, 112], [104, 105, 103, 104, 112]]
def isTyp (w : List UInt8) : Bool := typW.contains w
def isQua (w : List UInt8) : Bool := quaW.contains w
def isRes (w : List UInt8) : Bool := resW.contains w || isQua w || isTyp w
def typedT (t : Ti) : Bool := decide (t.k = 1) && isTyp t.t
def namedT (t : Ti) : Bool := decide (t.k = 1) && !isRes t.t
def wholeT (t : Ti) : Bool := decide (t.k = 2)
def isA (s : List (List UInt8)) (t : Ti) : Bool := (decide (t.k = 4) || decide (t.k = 1)) && s.contains t.t
def fstT (t : Ti) : Bool := decide (t.k = 2) || decide (t.k = 3) || typedT t || namedT t || isA [[116, 114, 117, 101], [102, 97, 108, 115, 101], [40]] t
def asgW : List (List UInt8) := [[61], [43, 61], [45, 61], [42, 61], [47, 61]]
def levW : Nat → List (List UInt8)
 | 0 => [[124, 124]]
 | 1 => [[38, 38]]
 | 2 => [[61, 61], [33, 61]]
 | 3 => [[60], [62], [60, 61], [62, 61]]
 | 4 => [[43], [45]]
 | _ => [[42], [47]]
abbrev Rp := Option (Option (List Pt) × List Ti)
def okP (ps : List Pt) (l : List Ti) : Rp := some (some ps, l)
def badP (l : List Ti) : Rp := some (none, l)
def bndP (r : Rp) (k : List Pt → List Ti → Rp) : Rp := match r with
 | some (some ps, l) => k ps l
 | x => x
def tkP (p : Ti → Bool) (l : List Ti) (k : Ti → List Ti → Rp) : Rp := match l with
 | [] => badP []
 | t :: l' => if p t = true then k t l' else badP (t :: l')
def mayP (s : List (List UInt8)) (l : List Ti) (k : Ti → List Ti → Rp) (e : Rp) : Rp := match l with
 | [] => e
 | t :: l' => if isA s t = true then k t l' else e
inductive Nt where
 | expr | cond | bin (k : Nat) | binL (k : Nat) (p : Pt) | un | fld (p : Pt) | fst | list | args (acc : List Pt)
 | stmt | blk | stms (acc : List Pt) | decl (a : Int) (ty tx : List UInt8) | vars (acc : List Pt) | varE (acc : List Pt) (v : Pt) | func (w : Ti) | pars | parL (acc : List Pt) | loop | bnd | shad (acc : List Pt)
abbrev binN (k : Nat) : Nt := if k < 5 then .bin (k + 1) else .un
def pF : Nat → Nt → List Ti → Rp
 | 0, _, _ => none
 | f + 1, .expr, l => bndP (pF f .cond l) fun ps l =>
   if (hdP ps).kd = 19 ∨ (hdP ps).kd = 18 then mayP asgW l (fun t l => bndP (pF f .expr l) fun qs l => okP [.mk 13 [] t.t 0 t.a [hdP ps, hdP qs]] l) (okP ps l) else okP ps l
 | f + 1, .cond, l => bndP (pF f (.bin 0) l) fun ps l =>
   mayP [[63]] l (fun t l => bndP (pF f .expr l) fun qs l => tkP (isA [[58]]) l fun _ l => bndP (pF f .cond l) fun rs l => okP [.mk 14 [] [] 0 t.a [hdP ps, hdP qs, hdP rs]] l) (okP ps l)
 | f + 1, .bin k, l => bndP (pF f (binN k) l) fun ps l => pF f (.binL k (hdP ps)) l
 | f + 1, .binL k p, l => mayP (levW k) l (fun t l => bndP (pF f (binN k) l) fun qs l => pF f (.binL k (.mk 15 [] t.t 0 t.a [p, hdP qs])) l) (okP [p] l)
 | f + 1, .un, l => mayP [[45], [33]] l (fun t l => bndP (pF f .un l) fun ps l => okP [.mk 16 [] t.t 0 t.a [hdP ps]] l) (bndP (pF f .fst l) fun ps l => pF f (.fld (hdP ps)) l)
 | f + 1, .fld p, l => mayP [[46]] l (fun _ l => tkP namedT l fun t l => pF f (.fld (.mk 18 [] t.t 0 t.a [p])) l) (okP [p] l)
 | f + 1, .fst, l => tkP fstT l fun t l =>
   if t.k = 2 ∨ t.k = 3 then okP [.mk (20 + t.k - 2) [] [] t.x t.a []] l
   else if isA [[40]] t = true then bndP (pF f .expr l) fun ps l => tkP (isA [[41]]) l fun _ l => okP ps l
   else if isA [[116, 114, 117, 101], [102, 97, 108, 115, 101]] t = true then okP [.mk 22 [] t.t 0 t.a []] l
   else if namedT t = true ∧ ¬isA [[40]] (l.headD ti0) = true then okP [.mk 19 [] t.t 0 t.a []] l
   else tkP (isA [[40]]) l fun _ l => bndP (pF f .list l) fun ps l => okP [.mk 17 [] t.t 0 t.a ps] l
 | f + 1, .list, l => mayP [[41]] l (fun _ l => okP [] l) (pF f (.args []) l)
 | f + 1, .args acc, l => bndP (pF f .expr l) fun ps l => mayP [[44]] l (fun _ l => pF f (.args (acc ++ [hdP ps])) l) (tkP (isA [[41]]) l fun _ l => okP (acc ++ [hdP ps]) l)
 | f + 1, .stmt, l =>
   mayP [[123]] l (fun _ _ => pF f .blk l) <|
   mayP [[105, 102]] l (fun t l => tkP (isA [[40]]) l fun _ l => bndP (pF f .expr l) fun ps l => tkP (isA [[41]]) l fun _ l => bndP (pF f .stmt l) fun qs l =>
    mayP [[101, 108, 115, 101]] l (fun _ l => bndP (pF f .stmt l) fun rs l => okP [.mk 7 [] [] 0 t.a [hdP ps, hdP qs, hdP rs]] l) (okP [.mk 7 [] [] 0 t.a [hdP ps, hdP qs]] l)) <|
   mayP [[102, 111, 114]] l (fun _ _ => pF f .loop l) <|
   mayP [[114, 101, 116, 117, 114, 110]] l (fun t l => mayP [[59]] l (fun _ l => okP [.mk 9 [] [] 0 t.a []] l) (bndP (pF f .expr l) fun ps l => tkP (isA [[59]]) l fun _ l => okP [.mk 9 [] [] 0 t.a [hdP ps]] l)) <|
   mayP [[100, 105, 115, 99, 97, 114, 100]] l (fun t l => tkP (isA [[59]]) l fun _ l => okP [.mk 10 [] [] 0 t.a []] l) <|
   mayP [[59]] l (fun t l => okP [.mk 12 [] [] 0 t.a []] l) <|
   mayP [[99, 111, 110, 115, 116]] l (fun t l => tkP typedT l fun w l => pF f (.decl t.a w.t t.t) l) <|
   if typedT (l.headD ti0) = true ∧ ¬isA [[40]] ((l.drop 1).headD ti0) = true then pF f (.decl (l.headD ti0).a (l.headD ti0).t []) (l.drop 1)
   else bndP (pF f .expr l) fun ps l' => tkP (isA [[59]]) l' fun _ l' => okP [.mk 11 [] [] 0 (l.headD ti0).a [hdP ps]] l'
 | f + 1, .blk, l => tkP (isA [[123]]) l fun t l => bndP (pF f (.stms []) l) fun ps l => okP [.mk 6 [] [] 0 t.a ps] l
 | f + 1, .stms acc, l => mayP [[125]] l (fun _ l => okP acc l) (bndP (pF f .stmt l) fun ps l => pF f (.stms (acc ++ [hdP ps])) l)
 | f + 1, .decl a ty tx, l => bndP (pF f (.vars []) l) fun ps l => tkP (isA [[59]]) l fun _ l => okP [.mk 2 ty tx 0 a ps] l
 | f + 1, .vars acc, l => tkP namedT l fun t l => mayP [[61]] l (fun _ l => bndP (pF f .expr l) fun ps l => pF f (.varE acc (.mk 3 [] t.t 0 t.a [hdP ps])) l) (pF f (.varE acc (.mk 3 [] t.t 0 t.a [])) l)
 | f + 1, .varE acc v, l => mayP [[44]] l (fun _ l => pF f (.vars (acc ++ [v])) l) (okP (acc ++ [v]) l)
 | f + 1, .func w, l => tkP namedT l fun t l => tkP (isA [[40]]) l fun _ l => bndP (pF f .pars l) fun ps l => bndP (pF f .blk l) fun bs l => okP [.mk 4 w.t t.t 0 w.a (ps ++ [hdP bs])] l
 | f + 1, .pars, l => mayP [[41]] l (fun _ l => okP [] l) (pF f (.parL []) l)
 | f + 1, .parL acc, l => tkP typedT l fun w l => tkP namedT l fun t l =>
   mayP [[44]] l (fun _ l => pF f (.parL (acc ++ [.mk 5 w.t t.t 0 t.a []])) l) (tkP (isA [[41]]) l fun _ l => okP (acc ++ [.mk 5 w.t t.t 0 t.a []]) l)
 | f + 1, .loop, l => tkP (isA [[102, 111, 114]]) l fun t l => tkP (isA [[40]]) l fun _ l => tkP (isA [[105, 110, 116]]) l fun _ l => tkP namedT l fun nm l => tkP (isA [[61]]) l fun _ l =>
   bndP (pF f .bnd l) fun ps l => tkP (isA [[59]]) l fun _ l => tkP (fun u => namedT u && decide (u.t = nm.t)) l fun _ l => tkP (isA [[60]]) l fun _ l =>
   bndP (pF f .bnd l) fun qs l => tkP (isA [[59]]) l fun _ l => tkP (fun u => namedT u && decide (u.t = nm.t)) l fun _ l => tkP (isA [[43, 43]]) l fun _ l => tkP (isA [[41]]) l fun _ l =>
   bndP (pF f .stmt l) fun rs l => okP [.mk 8 [] nm.t 0 t.a [hdP ps, hdP qs, hdP rs]] l
 | _ + 1, .bnd, l => mayP [[45]] l (fun t l => tkP wholeT l fun u l => okP [.mk 20 [] [] (-u.x) t.a []] l) (tkP wholeT l fun u l => okP [.mk 20 [] [] u.x u.a []] l)
 | f + 1, .shad acc, l =>
   if l = [] then okP acc []
   else if (decide ((l.headD ti0).k = 1) && isQua (l.headD ti0).t) = true then tkP typedT (l.drop 1) fun w l' => bndP (pF f (.decl (l.headD ti0).a w.t (l.headD ti0).t) l') fun ps l' => pF f (.shad (acc ++ [hdP ps])) l'
   else tkP typedT l fun w l' =>
    if namedT (l'.headD ti0) = true ∧ isA [[40]] ((l'.drop 1).headD ti0) = true then bndP (pF f (.func w) l') fun ps l' => pF f (.shad (acc ++ [hdP ps])) l'
    else bndP (pF f (.decl w.a w.t []) l') fun ps l' => pF f (.shad (acc ++ [hdP ps])) l'
theorem bnd_mono {r r' : Rp} {k k' : List Pt → List Ti → Rp} {x} (hr : ∀ x, r = some x → r' = some x) (hk : ∀ ps l x, k ps l = some x → k' ps l = some x) (h : bndP r k = some x) : bndP r' k' = some x := by
 unfold bndP at *
 cases r with
 | none => cases h
 | some y =>
  rw [hr y rfl]
  obtain ⟨o, l⟩ := y
  cases o with
  | none => exact h
  | some ps => exact hk ps l x h
theorem tk_mono {p : Ti → Bool} {l : List Ti} {k k' : Ti → List Ti → Rp} {x} (hk : ∀ t l x, k t l = some x → k' t l = some x) (h : tkP p l k = some x) : tkP p l k' = some x := by
 unfold tkP at *
 cases l with
 | nil => exact h
 | cons t l =>
  dsimp only at *
  split at h
  ·rename_i c; rw [if_pos c]; exact hk _ _ _ h
  ·rename_i c; rw [if_neg c]; exact h
theorem may_mono {s : List (List UInt8)} {l : List Ti} {k k' : Ti → List Ti → Rp} {e e' : Rp} {x} (hk : ∀ t l x, k t l = some x → k' t l = some x) (he : ∀ x, e = some x → e' = some x) (h : mayP s l k e = some x) : mayP s l k' e' = some x := by
 unfold mayP at *
 cases l with
 | nil => exact he _ h
 | cons t l =>
  dsimp only at *
  split at h
  ·rename_i c; rw [if_pos c]; exact hk _ _ _ h
  ·rename_i c; rw [if_neg c]; exact he _ h
theorem ite_mono {P : Prop} [Decidable P] {a b a' b' : Rp} {x} (ha : ∀ x, a = some x → a' = some x) (hb : ∀ x, b = some x → b' = some x) (h : (if P then a else b) = some x) : (if P then a' else b') = some x := by
 split at h
 ·rename_i c; rw [if_pos c]; exact ha _ h
 ·rename_i c; rw [if_neg c]; exact hb _ h
theorem pF_succ : ∀ (f : Nat) (n : Nt) (l : List Ti) x, pF f n l = some x → pF (f + 1) n l = some x
 | 0, n, l, x, h => by rw [pF] at h; cases h
 | f + 1, n, l, x, h => by
  have ih := pF_succ f
  cases n <;> (rw [pF] at h ⊢; revert h; repeat' (first | exact id | exact ih _ _ _ | intro h | (refine bnd_mono ?_ ?_ h; try clear h) | (refine tk_mono ?_ h; try clear h) | (refine may_mono ?_ ?_ h; try clear h) | (refine ite_mono ?_ ?_ h; try clear h) | exact ih _ _ _ h))
end Go.Proofs.YtbinaeemcidicaaGreatDoor
namespace Go.Proofs.YtbinaeemcidicaaGreatDoor
def Good (m : Nat) (l : List Ti) (r : Rp) : Prop := ∀ o l', r = some (o, l') → l' <:+ l ∧ (o.isSome = true → l'.length + m ≤ l.length)
theorem good_ok {m : Nat} {l l' : List Ti} {ps : List Pt} (h : l' <:+ l) (hm : l'.length + m ≤ l.length) : Good m l (okP ps l') := fun o l2 e => by
 cases e
 exact ⟨h, fun _ => hm⟩
theorem good_bad {m : Nat} {l l' : List Ti} (h : l' <:+ l) : Good m l (badP l') := fun o l2 e => by
 cases e
 exact ⟨h, fun e => by cases e⟩
theorem good_bnd {m m1 : Nat} {l l0 : List Ti} {r : Rp} {k : List Pt → List Ti → Rp} (hs : l0 <:+ l) (hr : Good m1 l0 r) (hk : ∀ ps l', l' <:+ l → l'.length + m1 ≤ l0.length → Good m l (k ps l')) : Good m l (bndP r k) := fun o l2 e => by
 unfold bndP at e
 cases r with
 | none => cases e
 | some y =>
  obtain ⟨q, l3⟩ := y
  obtain ⟨h1, h2⟩ := hr q l3 rfl
  cases q with
  | none => cases e; exact ⟨h1.trans hs, fun e => by cases e⟩
  | some ps => exact hk ps l3 (h1.trans hs) (h2 rfl) o l2 e
theorem good_tk {m : Nat} {l l0 : List Ti} {p : Ti → Bool} {k : Ti → List Ti → Rp} (hs : l0 <:+ l) (hk : ∀ t l', l' <:+ l → l'.length + 1 ≤ l0.length → Good m l (k t l')) : Good m l (tkP p l0 k) := by
 unfold tkP
 cases l0 with
 | nil => exact good_bad hs
 | cons t l' =>
  dsimp only
  split
  ·exact hk t l' ((List.suffix_cons t l').trans hs) (Nat.le_refl _)
  ·exact good_bad hs
theorem good_may {m : Nat} {l l0 : List Ti} {s : List (List UInt8)} {k : Ti → List Ti → Rp} {e : Rp} (hs : l0 <:+ l) (hk : ∀ t l', l' <:+ l → l'.length + 1 ≤ l0.length → Good m l (k t l')) (he : Good m l e) : Good m l (mayP s l0 k e) := by
 unfold mayP
 cases l0 with
 | nil => exact he
 | cons t l' =>
  dsimp only
  split
  ·exact hk t l' ((List.suffix_cons t l').trans hs) (Nat.le_refl _)
  ·exact he
theorem good_ite {m : Nat} {l : List Ti} {P : Prop} [Decidable P] {a b : Rp} (ha : P → Good m l a) (hb : ¬P → Good m l b) : Good m l (if P then a else b) := by
 split
 ·rename_i h; exact ha h
 ·rename_i h; exact hb h
theorem good_weak {m m' : Nat} {l l' : List Ti} {r : Rp} (hs : l' <:+ l) (h : Good m l' r) (hm : l'.length + m' ≤ l.length + m) : Good m' l r := fun o l2 e => by
 obtain ⟨h1, h2⟩ := h o l2 e
 exact ⟨h1.trans hs, fun e => by have := h2 e; omega⟩
def leastN : Nt → Nat
 | .binL _ _ | .fld _ | .varE _ _ | .shad _ => 0
 | _ => 1
theorem drop1_suf (l : List Ti) : l.drop 1 <:+ l := List.drop_suffix 1 l
theorem binN_least (k : Nat) : leastN (binN k) = 1 := by unfold binN; split <;> rfl
theorem pF_good : ∀ (f : Nat) (n : Nt) (l : List Ti), Good (leastN n) l (pF f n l)
 | 0, n, l => fun o l' h => by rw [pF] at h; cases h
 | f + 1, n, l => by
  have ih := pF_good f
  have go : ∀ {n m : Nat} {nt : Nt} {l l' : List Ti}, leastN nt = n → l' <:+ l → l'.length + m ≤ l.length + n → Good m l (pF f nt l') := fun hn hs hm => good_weak hs (ih _ _) Zf7
  have all := List.suffix_refl l
  have d1 := drop1_suf l
  have hb := binN_least
  have ib : ∀ k l, Good 1 l (pF f (binN k) l) := fun k l => by have := ih (binN k) l; rwa [hb] at this
  cases n
  case bin k =>
   rw [pF]
   exact good_bnd all (ib k l) fun ps l2 hs2 hl2 => go rfl hs2 (by simp only [leastN]; omega)
  case binL k p =>
   rw [pF]
   exact good_may all (fun t l1 hs hl => good_bnd hs (ib k l1) fun ps l2 hs2 hl2 => go rfl hs2 (by simp only [leastN]; omega)) (good_ok all (Nat.le_refl _))
  case shad acc =>
   rw [pF]
   refine good_ite (fun hc => ?_) fun hc => ?_
   ·subst hc; exact good_ok all (Nat.le_refl _)
   ·refine good_ite (fun _ => ?_) fun _ => ?_
    ·exact good_tk d1 fun t l1 hs hl => good_bnd hs (ih _ _) fun ps l2 hs2 hl2 => go rfl hs2 Zeu
    ·refine good_tk all fun t l1 hs hl => good_ite (fun _ => ?_) fun _ => ?_
     ·exact good_bnd hs (ih _ _) fun ps l2 hs2 hl2 => go rfl hs2 Zeu
     ·exact good_bnd hs (ih _ _) fun ps l2 hs2 hl2 => go rfl hs2 Zeu
  all_goals (rw [pF]; dsimp only [leastN]; repeat' (first
   | exact all | assumption
   | (refine good_ok ?_ ?_) | (refine good_bad ?_)
   | (refine good_tk ?_ ?_; rotate_left; intro t l1 hs hl) | (refine good_may ?_ ?_ ?_; rotate_left; intro t l1 hs hl)
   | (refine good_bnd (m1 := _) ?_ (ih _ _) ?_; rotate_left; intro ps l2 hs2 hl2)
   | (refine good_ite ?_ ?_ <;> intro hc)
   | exact go rfl Zf5 Zeu
   | (simp only [leastN] at *; omega)))
def rankN : Nt → Nat
 | .un => 1
 | .bin k => 2 + (5 - k)
 | .cond => 8
 | .expr => 9
 | .args _ => 10
 | .list => 11
 | .stmt => 12
 | .stms _ => 13
 | .decl _ _ _ => 1
 | .pars => 1
 | _ => 0
def fuelN (n : Nt) (l : List Ti) : Nat := 30 * l.length + rankN n + 1
def IsS (r : Rp) : Prop := r.isSome = true
theorem is_ok {ps : List Pt} {l : List Ti} : IsS (okP ps l) := rfl
theorem is_bad {l : List Ti} : IsS (badP l) := rfl
theorem is_bnd {r : Rp} {k : List Pt → List Ti → Rp} (h : IsS r) (hk : ∀ ps l, r = some (some ps, l) → IsS (k ps l)) : IsS (bndP r k) := by
 unfold bndP
 cases r with
 | none => cases h
 | some y =>
  obtain ⟨o, l⟩ := y
  cases o with
  | none => rfl
  | some ps => exact hk ps l rfl
theorem is_tk {p : Ti → Bool} {l : List Ti} {k : Ti → List Ti → Rp} (hk : ∀ t l', l = t :: l' → IsS (k t l')) : IsS (tkP p l k) := by
 unfold tkP
 cases l with
 | nil => rfl
 | cons t l =>
  dsimp only
  split
  ·exact hk t l rfl
  ·rfl
theorem is_may {s : List (List UInt8)} {l : List Ti} {k : Ti → List Ti → Rp} {e : Rp} (hk : ∀ t l', l = t :: l' → IsS (k t l')) (he : IsS e) : IsS (mayP s l k e) := by
 unfold mayP
 cases l with
 | nil => exact he
 | cons t l =>
  dsimp only
  split
  ·exact hk t l rfl
  ·exact he
theorem is_ite {P : Prop} [Decidable P] {a b : Rp} (ha : P → IsS a) (hb : ¬P → IsS b) : IsS (if P then a else b) := by
 split
 ·rename_i h; exact ha h
 ·rename_i h; exact hb h
theorem binN_rank (k : Nat) : rankN (binN k) < rankN (.bin k) ∧ rankN (binN k) ≤ 7 := by
 unfold binN
 split
 ·simp only [rankN]; omega
 ·simp only [rankN]; omega
theorem bin_rank (k : Nat) : rankN (.bin k) ≤ 7 := by simp only [rankN]; omega
theorem pF_some : ∀ (f : Nat) (n : Nt) (l : List Ti), fuelN n l ≤ f → IsS (pF f n l)
 | 0, n, l, h => by unfold fuelN at h; omega
 | f + 1, n, l, h => by
  have ih := pF_some f
  have g : ∀ {n l ps l'}, pF f n l = some (some ps, l') → l'.length + leastN n ≤ l.length := fun e => (pF_good f _ _ _ _ e).2 rfl
  have br := binN_rank
  have b0 := bin_rank 0
  have len : ∀ {t : Ti} {l l' : List Ti}, l = t :: l' → l'.length + 1 = l.length := fun e => by rw [e]; rfl
  have hb := binN_least
  unfold fuelN at h ih
  cases n
  case bin k =>
   rw [pF]
   refine is_bnd (ih _ _ (by have := (br k).1; omega)) fun ps l' e => ih _ _ ?_
   have := g e
   rw [hb] at this
   simp only [rankN] at *
   omega
  case binL k p =>
   rw [pF]
   refine is_may (fun t l1 e => is_bnd (ih _ _ ?_) fun ps l' e' => ih _ _ ?_) is_ok
   ·have := len e; have := (br k).2; simp only [rankN] at *; omega
   ·have := len e; have := g e'; simp only [rankN] at *; omega
  case stmt =>
   rw [pF]
   have hd : (l.drop 1).length ≤ l.length := by simp
   have hd1 : ∀ {P : Prop}, typedT (l.headD ti0) = true → P ∨ (l.drop 1).length + 1 ≤ l.length := fun e => by
    cases l with
    | nil => exact absurd e Zf6
    | cons t l => exact .inr Zgh
   repeat' (first
    | exact is_ok | exact is_bad
    | (refine is_tk fun t l1 e => ?_; have := len e; clear e) | (refine is_may (fun t l1 e => ?_) ?_ <;> (try (have := len e; clear e)))
    | (refine is_bnd ?_ fun ps l1 e => ?_ <;> (try (have := g e; clear e; simp only [leastN] at this)))
    | (refine is_ite (fun hc => ?_) fun hc => ?_)
    | (refine ih _ _ ?_; simp only [rankN] at *; omega)
    | (refine ih _ _ ?_; have := (hd1 hc.1).resolve_left id; simp only [rankN] at *; omega))
  case shad acc =>
   rw [pF]
   have hd : (l.drop 1).length ≤ l.length := by simp
   repeat' (first
    | exact is_ok | exact is_bad
    | (refine is_tk fun t l1 e => ?_; have := len e; clear e)
    | (refine is_bnd ?_ fun ps l1 e => ?_ <;> (try (have := g e; clear e; simp only [leastN] at this)))
    | (refine is_ite (fun hc => ?_) fun hc => ?_)
    | (refine ih _ _ ?_; simp only [rankN] at *; omega))
  all_goals (rw [pF]; clear br b0; repeat' (first
   | exact is_ok | exact is_bad
   | (refine is_tk fun t l1 e => ?_; have := len e; clear e) | (refine is_may (fun t l1 e => ?_) ?_ <;> (try (have := len e; clear e)))
   | (refine is_bnd ?_ fun ps l1 e => ?_ <;> (try (have := g e; clear e; simp only [leastN] at this)))
   | (refine is_ite (fun hc => ?_) fun hc => ?_)
   | (refine ih _ _ ?_; simp only [rankN] at *; omega)))
end Go.Proofs.YtbinaeemcidicaaGreatDoor
namespace Go.Proofs.YtbinaeemcidicaaGreatDoor
theorem bnd_of {r : Rp} {ps : List Pt} {l : List Ti} {k : List Pt → List Ti → Rp} (h : r = some (some ps, l)) : bndP r k = k ps l := by rw [h]; rfl
abbrev hNo (s : List (List UInt8)) (r : List Ti) : Prop := isA s (r.headD ti0) = false
theorem may_no {s : List (List UInt8)} {r : List Ti} {k : Ti → List Ti → Rp} {e : Rp} (h : hNo s r) : mayP s r k e = e := by
 unfold mayP
 cases r with
 | nil => rfl
 | cons t r =>
  have h : isA s t = false := h
  dsimp only
  rw [h]
  rfl
theorem may_yes {s : List (List UInt8)} {t : Ti} {r : List Ti} {k : Ti → List Ti → Rp} {e : Rp} (h : isA s t = true) : mayP s (t :: r) k e = k t r := by
 unfold mayP
 dsimp only
 rw [if_pos h]
theorem tk_yes {p : Ti → Bool} {t : Ti} {r : List Ti} {k : Ti → List Ti → Rp} (h : p t = true) : tkP p (t :: r) k = k t r := by
 unfold tkP
 dsimp only
 rw [if_pos h]
theorem bnd_inv {r : Rp} {k : List Pt → List Ti → Rp} {ps : List Pt} {l' : List Ti} (h : bndP r k = some (some ps, l')) : ∃ qs l1, r = some (some qs, l1) ∧ k qs l1 = some (some ps, l') := by
 unfold bndP at h
 cases r with
 | none => cases h
 | some y =>
  obtain ⟨o, l⟩ := y
  cases o with
  | none => cases h
  | some qs => exact ⟨qs, l, rfl, h⟩
theorem tk_inv {p : Ti → Bool} {l : List Ti} {k : Ti → List Ti → Rp} {ps : List Pt} {l' : List Ti} (h : tkP p l k = some (some ps, l')) : ∃ t l1, l = t :: l1 ∧ p t = true ∧ k t l1 = some (some ps, l') := by
 unfold tkP at h
 cases l with
 | nil => cases h
 | cons t l =>
  dsimp only at h
  split at h
  ·rename_i hp; exact ⟨t, l, rfl, hp, h⟩
  ·cases h
theorem may_inv {s : List (List UInt8)} {l : List Ti} {k : Ti → List Ti → Rp} {e : Rp} {x} (h : mayP s l k e = x) : (∃ t l1, l = t :: l1 ∧ isA s t = true ∧ k t l1 = x) ∨ (hNo s l ∧ e = x) := by
 unfold mayP at h
 cases l with
 | nil => exact .inr ⟨rfl, h⟩
 | cons t l =>
  dsimp only at h
  split at h
  ·rename_i hp; exact .inl ⟨t, l, rfl, hp, h⟩
  ·rename_i hp; exact .inr ⟨(Bool.not_eq_true _).mp hp, h⟩
theorem ok_inv {qs ps : List Pt} {l l' : List Ti} (h : okP qs l = some (some ps, l')) : qs = ps ∧ l = l' := by
 cases h
 exact ⟨rfl, rfl⟩
theorem isA_mem {s : List (List UInt8)} {t : Ti} (h : isA s t = true) : t.t ∈ s := by
 unfold isA at h
 simp only [Bool.and_eq_true] at h
 simpa using h.2
end Go.Proofs.YtbinaeemcidicaaGreatDoor
namespace Go.Proofs.YtbinaeemcidicaaGreatDoor
structure Nd where
 kd : Int
 ty : List UInt8
 tx : List UInt8
 nm : Int
 ks : List Int
 pl : Int
def nd0 : Nd := ⟨0, [], [], 0, [], 0⟩
mutual
def cntP : Pt → Nat
 | .mk _ _ _ _ _ ks => cntL ks + 1
def cntL : List Pt → Nat
 | [] => 0
 | p :: l => cntP p + cntL l
end
mutual
def hgtP : Pt → Nat
 | .mk _ _ _ _ _ ks => hgtL ks
def hgtL : List Pt → Nat
 | [] => 0
 | p :: l => max (hgtP p + 1) (hgtL l)
end
def kidsA : Nat → List Pt → List Int
 | _, [] => []
 | b, p :: l => (b : Int) :: kidsA (b + cntP p) l
mutual
def fltP : Pt → Nat → List Nd
 | .mk kd ty tx nm pl ks, b => ⟨kd, ty, tx, nm, kidsA (b + 1) ks, pl⟩ :: fltL ks (b + 1)
def fltL : List Pt → Nat → List Nd
 | [], _ => []
 | p :: l, b => fltP p b ++ fltL l (b + cntP p)
end
mutual
theorem flt_len : ∀ (p : Pt) (b : Nat), (fltP p b).length = cntP p
 | .mk kd ty tx nm pl ks, b => by rw [fltP, cntP, List.length_cons, fltL_len ks]
theorem fltL_len : ∀ (l : List Pt) (b : Nat), (fltL l b).length = cntL l
 | [], b => by rw [fltL, cntL]; rfl
 | p :: l, b => by rw [fltL, cntL, List.length_append, flt_len p, fltL_len l]
end
theorem cntP_pos (p : Pt) : 1 ≤ cntP p := by cases p; rw [cntP]; omega
mutual
def putP : Pt → Nat → Nat → Option Int → List Nd × Option Int
 | .mk kd ty tx nm pl ks, d, b, sp =>
  match (if 32 < d ∧ sp = none then some pl else sp) with
  | some x => ([], some x)
  | none => (⟨kd, ty, tx, nm, (putL ks d (b + 1) none).1, pl⟩ :: (putL ks d (b + 1) none).2.1, (putL ks d (b + 1) none).2.2)
def putL : List Pt → Nat → Nat → Option Int → List Int × List Nd × Option Int
 | [], _, _, sp => ([], [], sp)
 | q :: qs, d, b, sp => ((b : Int) :: (putL qs d (b + (putP q (d + 1) b sp).1.length) (putP q (d + 1) b sp).2).1, (putP q (d + 1) b sp).1 ++ (putL qs d (b + (putP q (d + 1) b sp).1.length) (putP q (d + 1) b sp).2).2.1,
   (putL qs d (b + (putP q (d + 1) b sp).1.length) (putP q (d + 1) b sp).2).2.2)
end
theorem putP_some (p : Pt) (d b : Nat) (x : Int) : putP p d b (some x) = ([], some x) := by
 obtain ⟨kd, ty, tx, nm, pl, ks⟩ := p
 rw [putP, if_neg (fun h => by cases h.2)]
theorem putP_deep {kd : Int} {ty tx : List UInt8} {nm pl : Int} {ks : List Pt} {d b : Nat} (h : 32 < d) : putP (.mk kd ty tx nm pl ks) d b none = ([], some pl) := by
 rw [putP, if_pos ⟨h, rfl⟩]
theorem putP_go {kd : Int} {ty tx : List UInt8} {nm pl : Int} {ks : List Pt} {d b : Nat} (h : ¬32 < d) : putP (.mk kd ty tx nm pl ks) d b none = (⟨kd, ty, tx, nm, (putL ks d (b + 1) none).1, pl⟩ :: (putL ks d (b + 1) none).2.1, (putL ks d (b + 1) none).2.2) := by
 rw [putP, if_neg (fun e => h e.1)]
mutual
theorem putP_le : ∀ (p : Pt) (d b : Nat) (sp : Option Int), (putP p d b sp).1.length ≤ cntP p
 | .mk kd ty tx nm pl ks, d, b, sp => by
  cases sp with
  | some x => rw [putP_some]; exact Nat.zero_le _
  | none =>
   by_cases h : 32 < d
   ·rw [putP_deep h]; exact Nat.zero_le _
   ·rw [putP_go h, cntP]
    have := putL_le ks d (b + 1) none
    simp only [List.length_cons]
    omega
theorem putL_le : ∀ (l : List Pt) (d b : Nat) (sp : Option Int), (putL l d b sp).2.1.length ≤ cntL l
 | [], d, b, sp => by rw [putL]; exact Nat.zero_le _
 | p :: l, d, b, sp => by
  rw [putL, cntL]
  have h1 := putP_le p (d + 1) b sp
  have h2 := putL_le l d (b + (putP p (d + 1) b sp).1.length) (putP p (d + 1) b sp).2
  simp only [List.length_append]
  omega
end
mutual
theorem putP_flt : ∀ (p : Pt) (d b : Nat), d + hgtP p ≤ 32 → putP p d b none = (fltP p b, none)
 | .mk kd ty tx nm pl ks, d, b, h => by
  rw [hgtP] at h
  obtain ⟨h1, h2, h3⟩ := putL_flt ks d (b + 1) Zf7
  rw [putP_go Zf7, fltP, h1, h2, h3]
theorem putL_flt : ∀ (l : List Pt) (d b : Nat), (∀ x, hgtL l = x → x = 0 ∨ d + x ≤ 32) → (putL l d b none).1 = kidsA b l ∧ (putL l d b none).2.1 = fltL l b ∧ (putL l d b none).2.2 = none
 | [], d, b, h => ⟨rfl, rfl, rfl⟩
 | p :: l, d, b, h => by
  have h' := h _ rfl
  rw [hgtL] at h'
  have e := putP_flt p (d + 1) b Zf7
  have hl := flt_len p b
  obtain ⟨h1, h2, h3⟩ := putL_flt l d (b + cntP p) (fun x hx => by omega)
  rw [putL, e]
  dsimp only
  rw [hl, h1, h2, h3, kidsA, fltL]
  exact ⟨rfl, rfl, rfl⟩
end
mutual
theorem putP_far : ∀ (p : Pt) (d b : Nat), 32 < d + hgtP p → (putP p d b none).2 ≠ none
 | .mk kd ty tx nm pl ks, d, b, h => by
  by_cases hd : 32 < d
  ·rw [putP_deep hd]
   exact fun e => by cases e
  ·rw [hgtP] at h
   rw [putP_go hd]
   exact putL_far ks d (b + 1) Zf7 Zf7
theorem putL_far : ∀ (l : List Pt) (d b : Nat), d ≤ 32 → 32 < d + hgtL l → (putL l d b none).2.2 ≠ none
 | [], d, b, hd, h => by rw [hgtL] at h; omega
 | p :: l, d, b, hd, h => by
  rw [hgtL] at h
  rw [putL]
  dsimp only
  cases e : (putP p (d + 1) b none).2 with
  | some x => rw [putL_some]; exact fun e => by cases e
  | none =>
   by_cases hp : 32 < d + 1 + hgtP p
   ·exact absurd e (putP_far p (d + 1) b hp)
   ·exact putL_far l d _ hd Zf7
theorem putL_some : ∀ (l : List Pt) (d b : Nat) (x : Int), (putL l d b (some x)).2.2 = some x
 | [], d, b, x => rfl
 | p :: l, d, b, x => by
  rw [putL, putP_some]
  dsimp only
  exact putL_some l d _ x
end
end Go.Proofs.YtbinaeemcidicaaGreatDoor
namespace Go.Proofs.YtbinaeemcidicaaGreatDoor
theorem cntL_app : ∀ a b : List Pt, cntL (a ++ b) = cntL a + cntL b
 | [], b => by rw [cntL, List.nil_append, Nat.zero_add]
 | p :: a, b => by rw [List.cons_append, cntL, cntL, cntL_app a b, Nat.add_assoc]
def Cn (s : Bool) (b : Nat) (r : Rp) : Prop := ∀ ps l', r = some (some ps, l') → cntL ps + l'.length ≤ b ∧ (s = true → ps ≠ [])
theorem cn_ok {s : Bool} {b : Nat} {ps : List Pt} {l : List Ti} (h : cntL ps + l.length ≤ b) (hs : s = true → ps ≠ []) : Cn s b (okP ps l) := fun qs l' e => by
 cases e
 exact ⟨h, hs⟩
theorem cn_bad {s : Bool} {b : Nat} {l : List Ti} : Cn s b (badP l) := fun qs l' e => by cases e
theorem cn_bnd0 {s s1 : Bool} {b b1 : Nat} {r : Rp} {k : List Pt → List Ti → Rp} (hr : Cn s1 b1 r) (hk : ∀ ps l', cntL ps + l'.length ≤ b1 → Cn s b (k ps l')) : Cn s b (bndP r k) := fun qs l' e => by
 unfold bndP at e
 cases r with
 | none => cases e
 | some y =>
  obtain ⟨q, l3⟩ := y
  cases q with
  | none => cases e
  | some ps => exact hk ps l3 (hr ps l3 rfl).1 qs l' e
theorem hd_le {ps : List Pt} (h : ps ≠ []) : cntP (hdP ps) ≤ cntL ps := by
 cases ps with
 | nil => exact absurd rfl h
 | cons p l =>
  rw [cntL]
  exact Nat.le_add_right _ _
theorem cn_bnd1 {s : Bool} {b b1 : Nat} {r : Rp} {k : List Pt → List Ti → Rp} (hr : Cn true b1 r) (hk : ∀ ps l', cntL ps + l'.length ≤ b1 → cntP (hdP ps) + l'.length ≤ b1 → ps ≠ [] → Cn s b (k ps l')) : Cn s b (bndP r k) := fun qs l' e => by
 unfold bndP at e
 cases r with
 | none => cases e
 | some y =>
  obtain ⟨q, l3⟩ := y
  cases q with
  | none => cases e
  | some ps =>
   obtain ⟨h1, h2⟩ := hr ps l3 rfl
   exact hk ps l3 h1 (by have := hd_le (h2 rfl); omega) (h2 rfl) qs l' e
theorem cn_tk {s : Bool} {b : Nat} {l0 : List Ti} {p : Ti → Bool} {k : Ti → List Ti → Rp} (hk : ∀ t l', l'.length + 1 = l0.length → Cn s b (k t l')) : Cn s b (tkP p l0 k) := by
 unfold tkP
 cases l0 with
 | nil => exact cn_bad
 | cons t l' =>
  dsimp only
  split
  ·exact hk t l' rfl
  ·exact cn_bad
theorem cn_may {s : Bool} {b : Nat} {l0 : List Ti} {p : List (List UInt8)} {k : Ti → List Ti → Rp} {e : Rp} (hk : ∀ t l', l'.length + 1 = l0.length → Cn s b (k t l')) (he : Cn s b e) : Cn s b (mayP p l0 k e) := by
 unfold mayP
 cases l0 with
 | nil => exact he
 | cons t l' =>
  dsimp only
  split
  ·exact hk t l' rfl
  ·exact he
theorem cn_ite {s : Bool} {b : Nat} {P : Prop} [Decidable P] {x y : Rp} (hx : P → Cn s b x) (hy : ¬P → Cn s b y) : Cn s b (if P then x else y) := by
 split
 ·rename_i h; exact hx h
 ·rename_i h; exact hy h
theorem cn_weak {s s' : Bool} {b b' : Nat} {r : Rp} (h : Cn s b r) (hb : b ≤ b') (hs : s' = true → s = true) : Cn s' b' r := fun ps l e => ⟨Nat.le_trans (h ps l e).1 hb, fun h' => (h ps l e).2 (hs h')⟩
def singN : Nt → Bool
 | .list | .args _ | .stms _ | .vars _ | .varE _ _ | .pars | .parL _ | .shad _ => false
 | _ => true
def baseN : Nt → Nat
 | .binL _ p | .fld p => cntP p
 | .args acc | .stms acc | .vars acc | .parL acc | .shad acc => cntL acc
 | .varE acc v => cntL acc + cntP v
 | _ => 0
theorem binN_one (k : Nat) : singN (binN k) = true ∧ baseN (binN k) = 0 := by unfold binN; split <;> exact ⟨rfl, rfl⟩
theorem pF_cnt : ∀ (f : Nat) (n : Nt) (l : List Ti), Cn (singN n) (baseN n + l.length) (pF f n l)
 | 0, n, l => fun o l' h => by rw [pF] at h; cases h
 | f + 1, n, l => by
  have ih := pF_cnt f
  have i1 : ∀ {nt : Nt} (l : List Ti), singN nt = true → Cn true (baseN nt + l.length) (pF f nt l) := fun {nt} l h => by have := ih nt l; rwa [h] at this
  have ib : ∀ k l, Cn true (0 + l.length) (pF f (binN k) l) := fun k l => by have := ih (binN k) l; rwa [(binN_one k).1, (binN_one k).2] at this
  have go : ∀ {s : Bool} {b : Nat} {nt : Nt} {l : List Ti}, baseN nt + l.length ≤ b → (s = true → singN nt = true) → Cn s b (pF f nt l) := fun hb hs => cn_weak (ih _ _) hb hs
  cases n
  case bin k =>
   rw [pF]
   exact cn_bnd1 (ib k l) fun ps l2 h1 h2 _ => go (by simp only [baseN] at *; omega) fun _ => rfl
  case binL k p =>
   rw [pF]
   exact cn_may (fun t l1 hl => cn_bnd1 (ib k l1) fun ps l2 h1 h2 _ => go (by simp only [baseN, cntP, cntL] at *; omega) fun _ => rfl) (cn_ok (by simp only [baseN, cntL]; omega) fun _ => List.cons_ne_nil _ _)
  case shad acc =>
   rw [pF]
   refine cn_ite (fun hc => ?_) fun hc => ?_
   ·subst hc; exact cn_ok (by simp only [baseN]; omega) (fun h => by cases h)
   ·refine cn_ite (fun _ => ?_) fun _ => ?_
    ·exact cn_tk fun t l1 hl => cn_bnd1 (i1 _ rfl) fun ps l2 h1 h2 _ => go Ze7 (fun h => by cases h)
    ·refine cn_tk fun t l1 hl => cn_ite (fun _ => ?_) fun _ => ?_
     ·exact cn_bnd1 (i1 _ rfl) fun ps l2 h1 h2 _ => go Ze7 (fun h => by cases h)
     ·exact cn_bnd1 (i1 _ rfl) fun ps l2 h1 h2 _ => go Ze7 (fun h => by cases h)
  all_goals (rw [pF]; dsimp only [baseN, singN]; repeat' (first
   | exact cn_bad
   | exact cn_ok (by simp only [baseN, cntL, cntP, cntL_app] at *; omega) (by first | (exact fun _ => List.cons_ne_nil _ _) | assumption | (exact fun _ => by assumption) | (exact fun h => by cases h))
   | (refine cn_tk ?_; intro t l1 hl) | (refine cn_may ?_ ?_; (focus (intro t l1 hl)))
   | (refine cn_bnd1 (i1 _ rfl) ?_; intro ps l2 h1 h2 h3)
   | (refine cn_bnd0 (ih _ _) ?_; intro ps l2 h1)
   | (refine cn_ite ?_ ?_ <;> intro hc)
   | exact go (by simp only [baseN, cntL, cntP, cntL_app, List.length_drop] at *; omega) (by first | (exact fun _ => rfl) | (exact fun h => by cases h))))
end Go.Proofs.YtbinaeemcidicaaGreatDoor
