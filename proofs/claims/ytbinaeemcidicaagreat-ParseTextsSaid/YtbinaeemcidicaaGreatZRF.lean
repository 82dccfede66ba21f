/- The document's reader: which tree it reads, and that it is the grammar's; in plain Lean. No condition. -/
import Derived.Test.YtbinaeemcidicaaGreatZCn
set_option maxHeartbeats 16000000
namespace Go.Proofs.YtbinaeemcidicaaGreat
abbrev Rs := List Ti × Bool
abbrev Ro := Option (List Pt × Rs)
abbrev hdR (s : Rs) : Ti := s.1.headD ti0
abbrev hd2R (s : Rs) : Ti := (s.1.drop 1).headD ti0
def tkR (ok : Bool) (s : Rs) : Rs := if (s.2 || !ok) = true then (s.1, true) else (s.1.drop 1, false)
def anyA (ws : List (List UInt8)) (t : Ti) : Bool := decide (t.k = 4) && ws.contains t.t
def okR (ps : List Pt) (s : Rs) : Ro := some (ps, s)
def bdR (r : Ro) (k : List Pt → Rs → Ro) : Ro := match r with
 | some (ps, s) => k ps s
 | none => none
def rtk (p : Ti → Bool) (s : Rs) (k : Ti → Rs → Ro) : Ro := k (hdR s) (tkR (p (hdR s)) s)
def ryA (ws : List (List UInt8)) (s : Rs) (k : Ti → Rs → Ro) (e : Ro) : Ro := if (!s.2 && anyA ws (hdR s)) = true then k (hdR s) (tkR true s) else e
def ryI (ws : List (List UInt8)) (s : Rs) (k : Ti → Rs → Ro) (e : Ro) : Ro := if (!s.2 && isA ws (hdR s)) = true then k (hdR s) (tkR true s) else e
def rcm (s : Rs) (d : Rs → Ro) (m : Rs → Ro) : Ro := if (s.2 || isA [[41]] (hdR s)) = true then rtk (isA [[41]]) s fun _ s => d s else rtk (isA [[44]]) s fun _ s => m s
def topR (g : Nt → Rs → Ro) (s : Rs) : Ro :=
 if isA quaW (hdR s) = true then rtk typedT (tkR true s) fun w s' => g (.decl (hdR s).a w.t (hdR s).t) s'
 else rtk typedT s fun w s' => if (!s'.2 && (namedT (hdR s') && anyA [[40]] (hd2R s'))) = true then g (.func w) s' else g (.decl w.a w.t []) s'
def rF : Nat → Nt → Rs → Ro
 | 0, _, _ => none
 | f + 1, .expr, s => bdR (rF f .cond s) fun ps s =>
   if (hdP ps).kd = 19 ∨ (hdP ps).kd = 18 then ryA asgW s (fun t s => bdR (rF f .expr s) fun qs s => okR [.mk 13 [] t.t 0 t.a [hdP ps, hdP qs]] s) (okR ps s) else okR ps s
 | f + 1, .cond, s => bdR (rF f (.bin 0) s) fun ps s =>
   ryA [[63]] s (fun t s => bdR (rF f .expr s) fun qs s => rtk (isA [[58]]) s fun _ s => bdR (rF f .cond s) fun rs s => okR [.mk 14 [] [] 0 t.a [hdP ps, hdP qs, hdP rs]] s) (okR ps s)
 | f + 1, .bin k, s => bdR (rF f (binN k) s) fun ps s => rF f (.binL k (hdP ps)) s
 | f + 1, .binL k p, s => ryA (levW k) s (fun t s => bdR (rF f (binN k) s) fun qs s => rF f (.binL k (.mk 15 [] t.t 0 t.a [p, hdP qs])) s) (okR [p] s)
 | f + 1, .un, s => ryA [[45], [33]] s (fun t s => bdR (rF f .un s) fun ps s => okR [.mk 16 [] t.t 0 t.a [hdP ps]] s) (bdR (rF f .fst s) fun ps s => rF f (.fld (hdP ps)) s)
 | f + 1, .fld p, s => ryA [[46]] s (fun _ s => rtk namedT s fun t s => rF f (.fld (.mk 18 [] t.t 0 t.a [p])) s) (okR [p] s)
 | f + 1, .fst, s =>
   if s.2 = true ∨ s.1 = [] then okR [.mk 0 [] [] 0 (hdR s).a []] (tkR false s)
   else if (hdR s).k = 2 then okR [.mk 20 [] [] (hdR s).x (hdR s).a []] (tkR true s)
   else if (hdR s).k = 3 then okR [.mk 21 [] [] (hdR s).x (hdR s).a []] (tkR true s)
   else if (isA [[116, 114, 117, 101]] (hdR s) || isA [[102, 97, 108, 115, 101]] (hdR s)) = true then okR [.mk 22 [] (hdR s).t 0 (hdR s).a []] (tkR true s)
   else if isA [[40]] (hdR s) = true then bdR (rF f .expr (tkR true s)) fun ps s => rtk (isA [[41]]) s fun _ s => okR ps s
   else if (typedT (hdR s) || (namedT (hdR s) && anyA [[40]] (hd2R s))) = true then rtk (isA [[40]]) (tkR true s) fun _ s' => bdR (rF f .list s') fun ps s' => okR [.mk 17 [] (hdR s).t 0 (hdR s).a ps] s'
   else if namedT (hdR s) = true then okR [.mk 19 [] (hdR s).t 0 (hdR s).a []] (tkR true s)
   else okR [.mk 0 [] [] 0 (hdR s).a []] (tkR false s)
 | f + 1, .list, s => if (s.2 || isA [[41]] (hdR s)) = true then rtk (isA [[41]]) s fun _ s => okR [] s else rF f (.args []) s
 | f + 1, .args acc, s => bdR (rF f .expr s) fun ps s => rcm s (fun s => okR (acc ++ [hdP ps]) s) fun s => rF f (.args (acc ++ [hdP ps])) s
 | f + 1, .stmt, s =>
   if s.2 = true then okR [.mk 12 [] [] 0 0 []] s else
   ryI [[123]] s (fun _ _ => rF f .blk s) <|
   ryI [[105, 102]] s (fun t s => rtk (isA [[40]]) s fun _ s => bdR (rF f .expr s) fun ps s => rtk (isA [[41]]) s fun _ s => bdR (rF f .stmt s) fun qs s =>
    ryI [[101, 108, 115, 101]] s (fun _ s => bdR (rF f .stmt s) fun rs s => okR [.mk 7 [] [] 0 t.a [hdP ps, hdP qs, hdP rs]] s) (okR [.mk 7 [] [] 0 t.a [hdP ps, hdP qs]] s)) <|
   ryI [[102, 111, 114]] s (fun _ _ => rF f .loop s) <|
   ryI [[114, 101, 116, 117, 114, 110]] s (fun t s => if isA [[59]] (hdR s) = true then rtk (isA [[59]]) s fun _ s => okR [.mk 9 [] [] 0 t.a []] s else bdR (rF f .expr s) fun ps s => rtk (isA [[59]]) s fun _ s => okR [.mk 9 [] [] 0 t.a [hdP ps]] s) <|
   ryI [[100, 105, 115, 99, 97, 114, 100]] s (fun t s => rtk (isA [[59]]) s fun _ s => okR [.mk 10 [] [] 0 t.a []] s) <|
   ryI [[59]] s (fun t s => okR [.mk 12 [] [] 0 t.a []] s) <|
   ryI [[99, 111, 110, 115, 116]] s (fun t s => rtk typedT s fun w s => rF f (.decl t.a w.t [99, 111, 110, 115, 116]) s) <|
   if (typedT (hdR s) && !anyA [[40]] (hd2R s)) = true then rF f (.decl (hdR s).a (hdR s).t []) (tkR true s)
   else bdR (rF f .expr s) fun ps s' => rtk (isA [[59]]) s' fun _ s' => okR [.mk 11 [] [] 0 (hdR s).a [hdP ps]] s'
 | f + 1, .blk, s => rtk (isA [[123]]) s fun t s => bdR (rF f (.stms []) s) fun ps s => okR [.mk 6 [] [] 0 t.a ps] s
 | f + 1, .stms acc, s => if s.2 = true ∨ s.1 = [] ∨ isA [[125]] (hdR s) = true then rtk (isA [[125]]) s fun _ s => okR acc s else bdR (rF f .stmt s) fun ps s => rF f (.stms (acc ++ [hdP ps])) s
 | f + 1, .decl a ty tx, s => bdR (rF f (.vars []) s) fun ps s => rtk (isA [[59]]) s fun _ s => okR [.mk 2 ty tx 0 a ps] s
 | f + 1, .vars acc, s => rtk namedT s fun t s => ryI [[61]] s (fun _ s => bdR (rF f .expr s) fun ps s => rF f (.varE acc (.mk 3 [] t.t 0 t.a [hdP ps])) s) (rF f (.varE acc (.mk 3 [] t.t 0 t.a [])) s)
 | f + 1, .varE acc v, s => ryI [[44]] s (fun _ s => rF f (.vars (acc ++ [v])) s) (okR (acc ++ [v]) s)
 | f + 1, .func w, s => rtk namedT s fun t s => rtk (isA [[40]]) s fun _ s => bdR (rF f .pars s) fun ps s => bdR (rF f .blk s) fun bs s => okR [.mk 4 w.t t.t 0 w.a (ps ++ [hdP bs])] s
 | f + 1, .pars, s => if (s.2 || isA [[41]] (hdR s)) = true then rtk (isA [[41]]) s fun _ s => okR [] s else rF f (.parL []) s
 | f + 1, .parL acc, s => rtk typedT s fun w s => rtk namedT s fun t s => rcm s (fun s => okR (acc ++ [.mk 5 w.t t.t 0 t.a []]) s) fun s => rF f (.parL (acc ++ [.mk 5 w.t t.t 0 t.a []])) s
 | f + 1, .loop, s => rtk (isA [[102, 111, 114]]) s fun t s => rtk (isA [[40]]) s fun _ s => rtk (isA [[105, 110, 116]]) s fun _ s => rtk namedT s fun nm s => rtk (isA [[61]]) s fun _ s =>
   bdR (rF f .bnd s) fun ps s => rtk (isA [[59]]) s fun _ s => rtk (fun u => namedT u && decide (u.t = nm.t)) s fun _ s => rtk (isA [[60]]) s fun _ s =>
   bdR (rF f .bnd s) fun qs s => rtk (isA [[59]]) s fun _ s => rtk (fun u => namedT u && decide (u.t = nm.t)) s fun _ s => rtk (isA [[43, 43]]) s fun _ s => rtk (isA [[41]]) s fun _ s =>
   bdR (rF f .stmt s) fun rs s => okR [.mk 8 [] nm.t 0 t.a [hdP ps, hdP qs, hdP rs]] s
 | _ + 1, .bnd, s => ryA [[45]] s (fun t s => rtk wholeT s fun u s => okR [.mk 20 [] [] (-u.x) t.a []] s) (rtk wholeT s fun u s => okR [.mk 20 [] [] u.x u.a []] s)
 | f + 1, .shad acc, s => if s.2 = true ∨ s.1 = [] then okR acc s else bdR (topR (fun n s => rF f n s) s) fun ps s => rF f (.shad (acc ++ [hdP ps])) s
def Bd (l : List Ti) (q : Ro) : Prop := ∃ ps, q = some (ps, (l, true))
theorem tkR_bad (ok : Bool) (l : List Ti) : tkR ok (l, true) = (l, true) := rfl
theorem tkR_no (l : List Ti) : tkR false (l, false) = (l, true) := rfl
theorem bd_ok {ps : List Pt} {l : List Ti} : Bd l (okR ps (l, true)) := ⟨ps, rfl⟩
theorem bd_bd {l : List Ti} {q : Ro} {k : List Pt → Rs → Ro} (h : Bd l q) (hk : ∀ ps, Bd l (k ps (l, true))) : Bd l (bdR q k) := by
 obtain ⟨ps, rfl⟩ := h
 exact hk ps
theorem bd_tk {p : Ti → Bool} {l : List Ti} {k : Ti → Rs → Ro} (hk : ∀ t, Bd l (k t (l, true))) : Bd l (rtk p (l, true) k) := hk _
theorem bd_yA {ws : List (List UInt8)} {l : List Ti} {k : Ti → Rs → Ro} {e : Ro} (he : Bd l e) : Bd l (ryA ws (l, true) k e) := he
theorem bd_yI {ws : List (List UInt8)} {l : List Ti} {k : Ti → Rs → Ro} {e : Ro} (he : Bd l e) : Bd l (ryI ws (l, true) k e) := he
theorem bd_cm {l : List Ti} {d m : Rs → Ro} (h : Bd l (d (l, true))) : Bd l (rcm (l, true) d m) := h
theorem bd_ite {l : List Ti} {P : Prop} [Decidable P] {a b : Ro} (ha : P → Bd l a) (hb : ¬P → Bd l b) : Bd l (if P then a else b) := by
 split
 ·rename_i h; exact ha h
 ·rename_i h; exact hb h
def rkB : Nt → Nat
 | .un => 2
 | .bin k => 3 + (5 - k)
 | .cond => 9
 | .expr => 10
 | .args _ => 11
 | .blk => 2
 | .vars _ => 2
 | .decl _ _ _ => 3
 | .func _ => 3
 | .loop => 2
 | _ => 1
theorem binN_rkB (k : Nat) : rkB (binN k) + 1 ≤ rkB (.bin k) := by
 unfold binN
 split
 ·simp only [rkB]; omega
 ·simp only [rkB]; omega
theorem rF_bad : ∀ (g : Nat) (n : Nt) (l : List Ti), rkB n ≤ g → Bd l (rF g n (l, true))
 | 0, n, l, h => by cases n <;> (simp only [rkB] at h; omega)
 | g + 1, n, l, h => by
  have ih := fun n h => rF_bad g n l h
  cases n
  case bin k =>
   rw [rF]
   have := binN_rkB k
   exact bd_bd (ih _ Zga) fun ps => ih _ (by simp only [rkB] at *; omega)
  case fst =>
   rw [rF, if_pos (.inl rfl), tkR_bad]
   exact bd_ok
  case stmt =>
   rw [rF, if_pos rfl]
   exact bd_ok
  case shad acc =>
   rw [rF, if_pos (.inl rfl)]
   exact bd_ok
  case stms acc =>
   rw [rF, if_pos (.inl rfl)]
   exact bd_tk fun t => bd_ok
  case list =>
   rw [rF, if_pos (show ((l, true).2 || isA [[41]] (hdR (l, true))) = true from rfl)]
   exact bd_tk fun t => bd_ok
  case pars =>
   rw [rF, if_pos (show ((l, true).2 || isA [[41]] (hdR (l, true))) = true from rfl)]
   exact bd_tk fun t => bd_ok
  all_goals (rw [rF]; simp only [rkB] at h; repeat' (first
   | exact bd_ok
   | (refine bd_bd ?_ fun ps => ?_) | (refine bd_tk fun t => ?_) | (refine bd_yA ?_) | (refine bd_yI ?_) | (refine bd_cm ?_)
   | (refine bd_ite (fun hc => ?_) fun hc => ?_)
   | exact ih _ Zdo))
def GdT (t : Ti) : Prop := (t.k = 1 → leB (t.t.headD 0) = true) ∧ (t.k = 4 → leB (t.t.headD 0) = false)
theorem any_is {ws : List (List UInt8)} (hw : ws.all (fun u => !leB (u.headD 0)) = true) {t : Ti} (h : GdT t) : anyA ws t = isA ws t := by
 unfold anyA isA
 cases h4 : decide (t.k = 4)
 ·cases h1 : decide (t.k = 1)
  ·rfl
  ·have hl := h.1 (of_decide_eq_true h1)
   cases hc : ws.contains t.t with
   | false => rfl
   | true =>
    have := List.all_eq_true.1 hw t.t (by simpa using hc)
    rw [hl] at this
    cases this
 ·rfl
theorem any_nil (ws : List (List UInt8)) : anyA ws ti0 = false := rfl
theorem isA_nilR (ws : List (List UInt8)) : isA ws ti0 = false := rfl
theorem qua_is {t : Ti} (h : GdT t) : isA quaW t = (decide (t.k = 1) && isQua t.t) := by
 unfold isA isQua
 cases h4 : decide (t.k = 4)
 ·rfl
 ·have hl := h.2 (of_decide_eq_true h4)
  have hk : decide (t.k = 1) = false := decide_eq_false (by have := of_decide_eq_true h4; omega)
  rw [hk]
  cases hc : quaW.contains t.t with
  | false => rfl
  | true =>
   have := List.all_eq_true.1 (show quaW.all (fun u => leB (u.headD 0)) = true by decide) t.t (by simpa using hc)
   rw [hl] at this
   cases this
theorem gd_nil : GdT ti0 := ⟨fun h => absurd (show (0 : Int) = 1 from h) Zf7, fun h => absurd (show (0 : Int) = 4 from h) Zf7⟩
theorem gd_head {L l : List Ti} (hL : ∀ t ∈ L, GdT t) (hs : l <:+ L) : GdT (l.headD ti0) := by
 cases l with
 | nil => exact gd_nil
 | cons t l => exact hL t (hs.subset (List.Mem.head _))
def Agr (r : Rp) (q : Ro) : Prop := match r with
 | none => True
 | some (some ps, l) => q = some (ps, (l, false))
 | some (none, l) => Bd l q
theorem agr_ok {ps : List Pt} {l : List Ti} : Agr (okP ps l) (okR ps (l, false)) := rfl
theorem agr_bnd {L : List Ti} {r : Rp} {q : Ro} {k : List Pt → List Ti → Rp} {k' : List Pt → Rs → Ro} (hr : Agr r q) (hs : ∀ o l', r = some (o, l') → l' <:+ L) (hk : ∀ ps l', l' <:+ L → Agr (k ps l') (k' ps (l', false))) (hb : ∀ ps l', Bd l' (k' ps (l', true))) : Agr (bndP r k) (bdR q k') := by
 unfold bndP
 cases r with
 | none => trivial
 | some y =>
  obtain ⟨o, l⟩ := y
  cases o with
  | none =>
   obtain ⟨ps, rfl⟩ := (hr : Bd l q)
   exact hb ps l
  | some ps =>
   have hr : q = some (ps, (l, false)) := hr
   subst hr
   exact hk ps l (hs _ _ rfl)
theorem agr_tk {L l : List Ti} {p : Ti → Bool} {k : Ti → List Ti → Rp} {k' : Ti → Rs → Ro} (hp : p ti0 = false) (hs : l <:+ L) (hk : ∀ t l', l' <:+ L → Agr (k t l') (k' t (l', false))) (hb : ∀ t l', Bd l' (k' t (l', true))) : Agr (tkP p l k) (rtk p (l, false) k') := by
 unfold tkP rtk
 cases l with
 | nil =>
  show Bd [] _
  rw [show p (hdR ([], false)) = false from hp, tkR_no]
  exact hb _ _
 | cons t l =>
  dsimp only
  cases hc : p t with
  | true =>
   rw [if_pos rfl, show p (hdR (t :: l, false)) = true from hc]
   exact hk t l ((List.suffix_cons t l).trans hs)
  | false =>
   rw [if_neg Zgn, show p (hdR (t :: l, false)) = false from hc, tkR_no]
   exact hb _ _
theorem agr_yI {L l : List Ti} {ws : List (List UInt8)} {k : Ti → List Ti → Rp} {k' : Ti → Rs → Ro} {e : Rp} {e' : Ro} (hs : l <:+ L) (hk : ∀ t l', isA ws t = true → l' <:+ L → Agr (k t l') (k' t (l', false))) (he : Agr e e') : Agr (mayP ws l k e) (ryI ws (l, false) k' e') := by
 unfold mayP ryI
 cases l with
 | nil => exact he
 | cons t l =>
  show Agr (if isA ws t = true then k t l else e) (if isA ws t = true then k' t (l, false) else e')
  split
  ·rename_i h; exact hk t l h ((List.suffix_cons t l).trans hs)
  ·exact he
theorem ryA_ryI {ws : List (List UInt8)} (hw : ws.all (fun u => !leB (u.headD 0)) = true) {L l : List Ti} (hL : ∀ t ∈ L, GdT t) (hs : l <:+ L) {b : Bool} {k : Ti → Rs → Ro} {e : Ro} : ryA ws (l, b) k e = ryI ws (l, b) k e := by
 unfold ryA ryI
 rw [any_is hw (gd_head hL hs)]
theorem agr_yA {L l : List Ti} {ws : List (List UInt8)} {k : Ti → List Ti → Rp} {k' : Ti → Rs → Ro} {e : Rp} {e' : Ro} (hL : ∀ t ∈ L, GdT t) (hw : ws.all (fun u => !leB (u.headD 0)) = true) (hs : l <:+ L) (hk : ∀ t l', isA ws t = true → l' <:+ L → Agr (k t l') (k' t (l', false))) (he : Agr e e') : Agr (mayP ws l k e) (ryA ws (l, false) k' e') := by
 rw [ryA_ryI hw hL hs]
 exact agr_yI hs hk he
theorem agr_ite {P Q : Prop} [Decidable P] [Decidable Q] {a b : Rp} {a' b' : Ro} (hPQ : P ↔ Q) (ha : P → Agr a a') (hb : ¬P → Agr b b') : Agr (if P then a else b) (if Q then a' else b') := by
 by_cases h : P
 ·rw [if_pos h, if_pos (hPQ.1 h)]; exact ha h
 ·rw [if_neg h, if_neg (fun e => h (hPQ.2 e))]; exact hb h
theorem one_no {u v : List UInt8} (huv : u ≠ v) {t : Ti} (h : isA [u] t = true) : isA [v] t = false := by
 unfold isA at *
 rw [Bool.and_eq_true] at h
 have h2 : t.t = u := by simpa using h.2
 rw [h2, show [v].contains u = false by simpa using huv, Bool.and_false]
theorem agr_cm {L l : List Ti} {d m : List Ti → Rp} {d' m' : Rs → Ro} (hs : l <:+ L) (hd : ∀ l', l' <:+ L → Agr (d l') (d' (l', false))) (hm : ∀ l', l' <:+ L → Agr (m l') (m' (l', false))) (hb : ∀ l', Bd l' (m' (l', true))) :
  Agr (mayP [[44]] l (fun _ l => m l) (tkP (isA [[41]]) l fun _ l => d l)) (rcm (l, false) d' m') := by
 unfold mayP rcm
 cases l with
 | nil => exact hb []
 | cons t l =>
  have hs' := (List.suffix_cons t l).trans hs
  show Agr (if isA [[44]] t = true then m l else if isA [[41]] t = true then d l else badP (t :: l)) (if isA [[41]] t = true then d' (tkR (isA [[41]] t) (t :: l, false)) else m' (tkR (isA [[44]] t) (t :: l, false)))
  cases hc : isA [[44]] t with
  | true =>
   rw [one_no Zf7 hc, if_pos rfl, if_neg Zgn]
   exact hm l hs'
  | false =>
   rw [if_neg Zgn]
   cases hp : isA [[41]] t with
   | true => rw [if_pos rfl, if_pos rfl]; exact hd l hs'
   | false => rw [if_neg Zgn, if_neg Zgn]; exact hb _
theorem pF_nil {f : Nat} {n : Nt} (hn : leastN n = 1) {x} (h : pF f n [] = some x) : x = (none, []) := by
 obtain ⟨o, l'⟩ := x
 obtain ⟨h1, h2⟩ := pF_good f n [] o l' h
 have := h1.length_le
 rw [hn] at h2
 cases o with
 | none => rw [List.suffix_nil.1 h1]
 | some ps =>
  have := h2 rfl
  simp at this
theorem agr_semi {L l : List Ti} {w : List UInt8} {d : List Ti → Rp} {d' : Rs → Ro} {e : Rp} {e' : Ro} (hs : l <:+ L) (hd : ∀ l', l' <:+ L → Agr (d l') (d' (l', false))) (he : Agr e e') :
  Agr (mayP [w] l (fun _ l => d l) e) (if isA [w] (hdR (l, false)) = true then rtk (isA [w]) (l, false) fun _ s => d' s else e') := by
 unfold mayP
 cases l with
 | nil => exact he
 | cons t l =>
  have hs' := (List.suffix_cons t l).trans hs
  show Agr (if isA [w] t = true then d l else e) (if isA [w] t = true then d' (tkR (isA [w] t) (t :: l, false)) else e')
  cases hc : isA [w] t with
  | true => rw [if_pos rfl, if_pos rfl]; exact hd l hs'
  | false => rw [if_neg Zgn, if_neg Zgn]; exact he
theorem agr_end {L l : List Ti} {d : List Ti → Rp} {d' : Rs → Ro} {e : Rp} {e' : Ro} (hs : l <:+ L) (hd : ∀ l', l' <:+ L → Agr (d l') (d' (l', false))) (he : Agr e e') :
  Agr (mayP [[41]] l (fun _ l => d l) e) (if (false || isA [[41]] (hdR (l, false))) = true then rtk (isA [[41]]) (l, false) fun _ s => d' s else e') := agr_semi hs hd he
theorem isA_one {u : List UInt8} {t : Ti} (h : isA [u] t = true) : t.t = u := by
 unfold isA at h
 rw [Bool.and_eq_true] at h
 simpa using h.2
theorem typ_any {L l : List Ti} (hL : ∀ t ∈ L, GdT t) (hs : l <:+ L) : (typedT (l.headD ti0) = true ∧ ¬isA [[40]] ((l.drop 1).headD ti0) = true) ↔ (typedT (hdR (l, false)) && !anyA [[40]] (hd2R (l, false))) = true := by
 show _ ↔ (typedT (l.headD ti0) && !anyA [[40]] ((l.drop 1).headD ti0)) = true
 rw [any_is Zf7 (gd_head hL ((List.drop_suffix 1 l).trans hs))]
 simp
theorem nam_any {L l : List Ti} (hL : ∀ t ∈ L, GdT t) (hs : l <:+ L) : (namedT (l.headD ti0) = true ∧ isA [[40]] ((l.drop 1).headD ti0) = true) ↔ (!(l, false).2 && (namedT (hdR (l, false)) && anyA [[40]] (hd2R (l, false)))) = true := by
 show _ ↔ (!false && (namedT (l.headD ti0) && anyA [[40]] ((l.drop 1).headD ti0))) = true
 rw [any_is Zf7 (gd_head hL ((List.drop_suffix 1 l).trans hs))]
 simp
theorem isA_two (a b : List UInt8) (t : Ti) : isA [a, b] t = (isA [a] t || isA [b] t) := by
 unfold isA
 rw [← Bool.and_or_distrib_left]
 congr 1
 simp
theorem isA_three (a b c : List UInt8) (t : Ti) : isA [a, b, c] t = (isA [a, b] t || isA [c] t) := by
 unfold isA
 rw [← Bool.and_or_distrib_left]
 congr 1
 simp [Bool.or_assoc]
theorem bdR_ite {P : Prop} [Decidable P] {a b : Ro} {k : List Pt → Rs → Ro} : bdR (if P then a else b) k = if P then bdR a k else bdR b k := by split <;> rfl
theorem bdR_rtk {p : Ti → Bool} {s : Rs} {k : Ti → Rs → Ro} {K : List Pt → Rs → Ro} : bdR (rtk p s k) K = rtk p s fun t s => bdR (k t s) K := rfl
theorem typ_nam {t : Ti} (h : typedT t = true) : namedT t = false := by
 unfold typedT at h
 unfold namedT isRes
 rw [Bool.and_eq_true] at h
 rw [h.2, Bool.or_true]
 simp
theorem lev_let (k : Nat) : (levW k).all (fun u => !leB (u.headD 0)) = true := by
 unfold levW
 split <;> decide
theorem pF_rF {L : List Ti} (hL : ∀ t ∈ L, GdT t) : ∀ (f : Nat) (n : Nt) (l : List Ti), l <:+ L → Agr (pF f n l) (rF (f + 20) n (l, false))
 | 0, n, l, hs => by rw [pF]; trivial
 | f + 1, n, l, hs => by
  have ih := fun n l hs => pF_rF hL f n l hs
  have sf : ∀ {n : Nt} {l l' : List Ti} {o : Option (List Pt)}, l <:+ L → pF f n l = some (o, l') → l' <:+ L := fun hs e => (pF_good _ _ _ _ _ e).1.trans hs
  show Agr (pF (f + 1) n l) (rF (f + 20 + 1) n (l, false))
  cases n
  case bin k =>
   rw [pF, rF]
   exact agr_bnd (ih _ _ hs) (fun o l' e => sf hs e) (fun ps l' hs => ih _ _ hs) fun ps l' => rF_bad _ _ _ Zdo
  case binL k p =>
   rw [pF, rF]
   exact agr_yA hL (lev_let k) hs (fun t l' hc hs => agr_bnd (ih _ _ hs) (fun o l' e => sf hs e) (fun ps l' hs => ih _ _ hs) fun ps l' => rF_bad _ _ _ Zdo) agr_ok
  case fst =>
   rw [pF, rF]
   cases l with
   | nil => exact ⟨_, rfl⟩
   | cons t l =>
    have hs' := (List.suffix_cons t l).trans hs
    rw [if_neg Zgn]
    show Agr (if fstT t = true then _ else badP (t :: l)) _
    by_cases hk2 : t.k = 2
    ·have hf : fstT t = true := by unfold fstT; simp [hk2]
     rw [if_pos hf, if_pos (.inl hk2), if_pos (show (hdR (t :: l, false)).k = 2 from hk2), hk2]
     exact agr_ok
    by_cases hk3 : t.k = 3
    ·have hf : fstT t = true := by unfold fstT; simp [hk3]
     rw [if_pos hf, if_pos (.inr hk3), if_neg (show ¬(hdR (t :: l, false)).k = 2 from hk2), if_pos (show (hdR (t :: l, false)).k = 3 from hk3), hk3]
     exact agr_ok
    have hk : ¬(t.k = 2 ∨ t.k = 3) := fun h => h.elim hk2 hk3
    have hft : fstT t = (typedT t || namedT t || isA [[116, 114, 117, 101], [102, 97, 108, 115, 101], [40]] t) := by unfold fstT; rw [decide_eq_false hk2, decide_eq_false hk3]; rfl
    rw [if_neg (show ¬(hdR (t :: l, false)).k = 2 from hk2), if_neg (show ¬(hdR (t :: l, false)).k = 3 from hk3), if_neg hk]
    show Agr _ (if (isA [[116, 114, 117, 101]] t || isA [[102, 97, 108, 115, 101]] t) = true then okR [.mk 22 [] t.t 0 t.a []] (l, false) else if isA [[40]] t = true then bdR (rF (f + 20) .expr (l, false)) (fun ps s => rtk (isA [[41]]) s fun _ s => okR ps s) else
     if (typedT t || (namedT t && anyA [[40]] (l.headD ti0))) = true then rtk (isA [[40]]) (l, false) (fun _ s' => bdR (rF (f + 20) .list s') fun ps s' => okR [.mk 17 [] t.t 0 t.a ps] s') else if namedT t = true then okR [.mk 19 [] t.t 0 t.a []] (l, false) else okR [.mk 0 [] [] 0 t.a []] (t :: l, true))
    cases hb : isA [[116, 114, 117, 101], [102, 97, 108, 115, 101]] t with
    | true =>
     have hp : isA [[40]] t = false := by
      rw [isA_two, Bool.or_eq_true] at hb
      exact hb.elim (one_no Zf7) (one_no Zf7)
     rw [isA_two] at hb
     rw [if_pos (by rw [hft, isA_three, isA_two, hb]; simp), hp, if_neg Zgn, if_pos rfl, if_pos hb]
     exact agr_ok
    | false =>
     rw [isA_two] at hb
     rw [if_neg (show ¬(isA [[116, 114, 117, 101]] t || isA [[102, 97, 108, 115, 101]] t) = true by rw [hb]; simp)]
     cases hp : isA [[40]] t with
     | true =>
      rw [if_pos (by rw [hft, isA_three, hp]; simp), if_pos rfl, if_pos rfl]
      exact agr_bnd (ih _ _ hs') (fun o l' e => sf hs' e) (fun ps l' hs => agr_tk rfl hs (fun t l' hs => agr_ok) fun t l' => bd_ok) fun ps l' => bd_tk fun t => bd_ok
     | false =>
      rw [if_neg (show ¬false = true by simp), if_neg (show ¬false = true by simp)]
      rw [if_neg (show ¬false = true by simp)]
      have key : Agr (tkP (isA [[40]]) l fun _ l => bndP (pF f .list l) fun ps l => okP [.mk 17 [] t.t 0 t.a ps] l) (rtk (isA [[40]]) (l, false) (fun _ s' => bdR (rF (f + 20) .list s') fun ps s' => okR [.mk 17 [] t.t 0 t.a ps] s')) :=
       agr_tk rfl hs' (fun t l' hs => agr_bnd (ih _ _ hs) (fun o l' e => sf hs e) (fun ps l' hs => agr_ok) fun ps l' => bd_ok) fun t l' => bd_bd (rF_bad _ _ _ Zdo) fun ps => bd_ok
      cases hty : typedT t with
      | true =>
       rw [if_pos (by rw [hft, hty]; rfl), typ_nam hty, if_neg Zgn, if_pos (by rfl)]
       exact key
      | false =>
       cases hn : namedT t with
       | true =>
        rw [if_pos (by rw [hft, hn]; simp), any_is Zf7 (gd_head hL hs')]
        cases hq : isA [[40]] (l.headD ti0) with
        | true => rw [if_neg Zgn, if_pos (by rfl)]; exact key
        | false => rw [if_pos Zgn, if_neg Zgn, if_pos rfl]; exact agr_ok
       | false =>
        rw [if_neg (by rw [hft, isA_three, isA_two, hty, hn, hb, hp]; simp), if_neg Zgn, if_neg Zgn]
        exact ⟨_, rfl⟩
  case stms acc =>
   rw [pF, rF]
   cases l with
   | nil =>
    rw [if_pos (.inr (.inl rfl))]
    show Agr (bndP (pF f .stmt []) _) _
    unfold bndP
    cases e : pF f .stmt [] with
    | none => trivial
    | some x =>
     rw [pF_nil rfl e]
     exact ⟨_, rfl⟩
   | cons t l =>
    have hs' := (List.suffix_cons t l).trans hs
    show Agr (if isA [[125]] t = true then _ else _) (if false = true ∨ t :: l = [] ∨ isA [[125]] t = true then okR acc (tkR (isA [[125]] t) (t :: l, false)) else _)
    cases hc : isA [[125]] t with
    | true => rw [if_pos rfl, if_pos Zgn]; exact agr_ok
    | false =>
     rw [if_neg Zgn, if_neg Zgn]
     exact agr_bnd (ih _ _ hs) (fun o l' e => sf hs e) (fun ps l' hs => ih _ _ hs) fun ps l' => rF_bad _ _ _ Zdo
  case list =>
   rw [pF, rF]
   exact agr_end hs (fun l' hs => agr_ok) (ih _ _ hs)
  case pars =>
   rw [pF, rF]
   exact agr_end hs (fun l' hs => agr_ok) (ih _ _ hs)
  case args acc =>
   rw [pF, rF]
   exact agr_bnd (ih _ _ hs) (fun o l' e => sf hs e) (fun ps l' hs => agr_cm hs (fun l' hs => agr_ok) (fun l' hs => ih _ _ hs) fun l' => rF_bad _ _ _ Zdo) fun ps l' => bd_cm bd_ok
  case parL acc =>
   rw [pF, rF]
   exact agr_tk rfl hs (fun w l' hs => agr_tk rfl hs (fun t l' hs => agr_cm hs (fun l' hs => agr_ok) (fun l' hs => ih _ _ hs) fun l' => rF_bad _ _ _ Zdo) fun t l' => bd_cm bd_ok) fun w l' => bd_tk fun t => bd_cm bd_ok
  case stmt =>
   rw [pF, rF, if_neg (show ¬((l, false) : Rs).2 = true by simp)]
   have hd : l.drop 1 <:+ L := (List.drop_suffix 1 l).trans hs
   repeat' (first
    | exact agr_ok | exact bd_ok
    | (refine agr_bnd (ih _ _ Zf5) (fun o l' e => sf Zf5 e) (fun ps l' hs => ?_) fun ps l' => ?_)
    | (refine agr_tk rfl Zf5 (fun t l' hs => ?_) fun t l' => ?_)
    | (refine agr_yI Zf5 (fun t l' hc hs => ?_) ?_)
    | exact ih _ _ Zf5
    | (refine bd_bd ?_ fun ps => ?_) | (refine bd_tk fun t => ?_) | (refine bd_yI ?_)
    | exact rF_bad _ _ _ Zdo
    | exact agr_semi Zf5 (fun l' hs => agr_ok) (agr_bnd (ih _ _ Zf5) (fun o l' e => sf Zf5 e) (fun ps l' hs => agr_tk rfl hs (fun t l' hs => agr_ok) fun t l' => bd_ok) fun ps l' => bd_tk fun t => bd_ok)
    | (have hcc := isA_one ‹isA [[99, 111, 110, 115, 116]] _ = true›; rw [hcc]; exact ih _ _ Zf5)
    | (refine agr_ite (typ_any hL hs) (fun hc => ih _ _ hd) fun hc => ?_))
  case shad acc =>
   rw [pF, rF]
   cases l with
   | nil => rw [if_pos rfl, if_pos (.inr rfl)]; exact agr_ok
   | cons t l =>
    have hs' := (List.suffix_cons t l).trans hs
    rw [if_neg (show ¬t :: l = [] by simp), if_neg (show ¬(((t :: l, false) : Rs).2 = true ∨ ((t :: l, false) : Rs).1 = []) by simp)]
    unfold topR
    rw [qua_is (gd_head hL hs)]
    show Agr (if (decide (t.k = 1) && isQua t.t) = true then tkP typedT l _ else tkP typedT (t :: l) _) (bdR (if (decide (t.k = 1) && isQua t.t) = true then _ else _) _)
    by_cases hc : (decide (t.k = 1) && isQua t.t) = true
    ·rw [if_pos hc, if_pos hc]
     rw [bdR_rtk]
     exact agr_tk rfl hs' (fun w l' hs => agr_bnd (ih _ _ hs) (fun o l' e => sf hs e) (fun ps l' hs => ih _ _ hs) fun ps l' => rF_bad _ _ _ Zdo) fun w l' => bd_bd (rF_bad _ _ _ Zdo) fun ps => rF_bad _ _ _ Zdo
    ·rw [if_neg hc, if_neg hc]
     rw [bdR_rtk]
     refine agr_tk rfl hs (fun w l' hs => ?_) fun w l' => ?_
     ·rw [bdR_ite]
      exact agr_ite (nam_any hL hs) (fun _ => agr_bnd (ih _ _ hs) (fun o l' e => sf hs e) (fun ps l' hs => ih _ _ hs) fun ps l' => rF_bad _ _ _ Zdo) fun _ => agr_bnd (ih _ _ hs) (fun o l' e => sf hs e) (fun ps l' hs => ih _ _ hs) fun ps l' => rF_bad _ _ _ Zdo
     ·rw [if_neg Zgn]
      exact bd_bd (rF_bad _ _ _ Zdo) fun ps => rF_bad _ _ _ Zdo
  all_goals (rw [pF, rF]; repeat' (first
   | exact agr_ok | exact bd_ok
   | (refine agr_bnd (ih _ _ Zf5) (fun o l' e => sf Zf5 e) (fun ps l' hs => ?_) fun ps l' => ?_)
   | (refine agr_tk rfl Zf5 (fun t l' hs => ?_) fun t l' => ?_)
   | (refine agr_yA hL Zf7 Zf5 (fun t l' hc hs => ?_) ?_)
   | (refine agr_yI Zf5 (fun t l' hc hs => ?_) ?_)
   | (refine agr_ite Iff.rfl (fun hc => ?_) fun hc => ?_)
   | exact ih _ _ Zf5
   | (refine bd_bd ?_ fun ps => ?_) | (refine bd_tk fun t => ?_) | (refine bd_yA ?_) | (refine bd_yI ?_) | (refine bd_ite (fun hc => ?_) fun hc => ?_)
   | exact rF_bad _ _ _ Zdo))
theorem bdR_mono {r r' : Ro} {k k' : List Pt → Rs → Ro} {x} (hr : ∀ x, r = some x → r' = some x) (hk : ∀ ps s x, k ps s = some x → k' ps s = some x) (h : bdR r k = some x) : bdR r' k' = some x := by
 unfold bdR at *
 cases r with
 | none => cases h
 | some y =>
  rw [hr y rfl]
  exact hk _ _ x h
theorem rtk_mono {p : Ti → Bool} {s : Rs} {k k' : Ti → Rs → Ro} {x} (hk : ∀ t s x, k t s = some x → k' t s = some x) (h : rtk p s k = some x) : rtk p s k' = some x := hk _ _ _ h
theorem iteR_mono {P : Prop} [Decidable P] {a b a' b' : Ro} {x} (ha : ∀ x, a = some x → a' = some x) (hb : ∀ x, b = some x → b' = some x) (h : (if P then a else b) = some x) : (if P then a' else b') = some x := by
 split at h
 ·rename_i c; rw [if_pos c]; exact ha _ h
 ·rename_i c; rw [if_neg c]; exact hb _ h
theorem ryA_mono {ws : List (List UInt8)} {s : Rs} {k k' : Ti → Rs → Ro} {e e' : Ro} {x} (hk : ∀ t s x, k t s = some x → k' t s = some x) (he : ∀ x, e = some x → e' = some x) (h : ryA ws s k e = some x) : ryA ws s k' e' = some x := iteR_mono (hk _ _) he h
theorem ryI_mono {ws : List (List UInt8)} {s : Rs} {k k' : Ti → Rs → Ro} {e e' : Ro} {x} (hk : ∀ t s x, k t s = some x → k' t s = some x) (he : ∀ x, e = some x → e' = some x) (h : ryI ws s k e = some x) : ryI ws s k' e' = some x := iteR_mono (hk _ _) he h
theorem rcm_mono {s : Rs} {d d' m m' : Rs → Ro} {x} (hd : ∀ s x, d s = some x → d' s = some x) (hm : ∀ s x, m s = some x → m' s = some x) (h : rcm s d m = some x) : rcm s d' m' = some x := iteR_mono (fun _ h => hd _ _ h) (fun _ h => hm _ _ h) h
theorem topR_mono {g g' : Nt → Rs → Ro} {s : Rs} {x} (hg : ∀ n s x, g n s = some x → g' n s = some x) (h : topR g s = some x) : topR g' s = some x := by
 unfold topR at *
 exact iteR_mono (fun x h => hg _ _ _ h) (fun x h => iteR_mono (fun x h => hg _ _ _ h) (fun x h => hg _ _ _ h) h) h
theorem rF_succ : ∀ (f : Nat) (n : Nt) (s : Rs) x, rF f n s = some x → rF (f + 1) n s = some x
 | 0, n, s, x, h => by rw [rF] at h; cases h
 | f + 1, n, s, x, h => by
  have ih := rF_succ f
  cases n <;> (rw [rF] at h ⊢; revert h; repeat' (first | exact id | exact ih _ _ _ | intro h | (refine bdR_mono ?_ ?_ h; try clear h) | (refine topR_mono (fun n s x h => ih n s x h) h) | (refine rtk_mono ?_ h; try clear h) | (refine ryA_mono ?_ ?_ h; try clear h) | (refine ryI_mono ?_ ?_ h; try clear h) | (refine rcm_mono ?_ ?_ h; try clear h) | (refine iteR_mono ?_ ?_ h; try clear h) | exact ih _ _ _ h))
theorem rF_up {f g : Nat} (hg : g ≤ f) {n : Nt} {s : Rs} {x} (e : rF g n s = some x) : rF f n s = some x := by
 induction hg with
 | refl => exact e
 | step _ ih => exact rF_succ _ _ _ _ ih
end Go.Proofs.YtbinaeemcidicaaGreat
