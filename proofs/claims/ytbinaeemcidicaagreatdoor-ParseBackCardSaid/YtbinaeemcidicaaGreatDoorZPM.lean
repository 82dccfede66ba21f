/- Places do not count: the grammar over tokens without their places, in plain Lean. No condition. -/
import Derived.Test.YtbinaeemcidicaaGreatDoorZCn
set_option maxHeartbeats 16000000
namespace Go.Proofs.YtbinaeemcidicaaGreatDoor
def erT (t : Ti) : Ti := ⟨t.k, t.t, t.x, 0, 0⟩
mutual
def erP : Pt → Pt
 | .mk kd ty tx nm _ ks => .mk kd ty tx nm 0 (erL ks)
def erL : List Pt → List Pt
 | [] => []
 | p :: l => erP p :: erL l
end
theorem erL_map : ∀ l : List Pt, erL l = l.map erP
 | [] => by rw [erL]; rfl
 | p :: l => by rw [erL, erL_map l]; rfl
theorem erL_app (a b : List Pt) : erL (a ++ b) = erL a ++ erL b := by rw [erL_map, erL_map, erL_map, List.map_append]
theorem erP_hd (l : List Pt) : hdP (erL l) = erP (hdP l) := by
 cases l with
 | nil => rw [erL]; unfold hdP pt0; show Pt.mk 0 [] [] 0 0 [] = erP (Pt.mk 0 [] [] 0 0 []); rw [erP, erL]
 | cons p l => rw [erL]; rfl
theorem erP_kd (p : Pt) : (erP p).kd = p.kd := by
 cases p; rw [erP]; rfl
def erN : Nt → Nt
 | .binL k p => .binL k (erP p)
 | .fld p => .fld (erP p)
 | .args l => .args (erL l)
 | .stms l => .stms (erL l)
 | .decl _ ty tx => .decl 0 ty tx
 | .vars l => .vars (erL l)
 | .varE l v => .varE (erL l) (erP v)
 | .func w => .func (erT w)
 | .parL l => .parL (erL l)
 | .shad l => .shad (erL l)
 | n => n
def erR (r : Rp) : Rp := r.map fun q => (q.1.map erL, q.2.map erT)
theorem er_ok {ps ps' : List Pt} {l l' : List Ti} (h : erL ps = ps') (hl : l.map erT = l') : erR (okP ps l) = okP ps' l' := by subst h hl; rfl
theorem er_bad {l l' : List Ti} (hl : l.map erT = l') : erR (badP l) = badP l' := by subst hl; rfl
theorem er_bnd {r r' : Rp} {k k' : List Pt → List Ti → Rp} (hr : erR r = r') (h : ∀ ps l, erR (k ps l) = k' (erL ps) (l.map erT)) : erR (bndP r k) = bndP r' k' := by
 subst hr
 unfold bndP
 cases r with
 | none => rfl
 | some y =>
  obtain ⟨o, l⟩ := y
  cases o with
  | none => rfl
  | some ps => exact h ps l
theorem er_tk {p p' : Ti → Bool} {l l' : List Ti} {k k' : Ti → List Ti → Rp} (hp : ∀ t, p' (erT t) = p t) (hl : l.map erT = l') (h : ∀ t l, erR (k t l) = k' (erT t) (l.map erT)) : erR (tkP p l k) = tkP p' l' k' := by
 subst hl
 unfold tkP
 cases l with
 | nil => rfl
 | cons t l =>
  simp only [List.map_cons]
  rw [hp]
  split
  ·exact h t l
  ·rfl
theorem isA_er (s : List (List UInt8)) (t : Ti) : isA s (erT t) = isA s t := rfl
theorem er_may {s : List (List UInt8)} {l l' : List Ti} {k k' : Ti → List Ti → Rp} {e e' : Rp} (hl : l.map erT = l') (h : ∀ t l, erR (k t l) = k' (erT t) (l.map erT)) (he : erR e = e') : erR (mayP s l k e) = mayP s l' k' e' := by
 subst hl
 unfold mayP
 cases l with
 | nil => exact he
 | cons t l =>
  simp only [List.map_cons]
  rw [isA_er]
  split
  ·exact h t l
  ·exact he
theorem er_ite {P P' : Prop} [Decidable P] [Decidable P'] {a b a' b' : Rp} (hP : P ↔ P') (ha : erR a = a') (hb : erR b = b') : erR (if P then a else b) = if P' then a' else b' := by
 by_cases h : P
 ·rw [if_pos h, if_pos (hP.1 h), ha]
 ·rw [if_neg h, if_neg (fun e => h (hP.2 e)), hb]
theorem head_er (l : List Ti) : (l.map erT).headD ti0 = erT (l.headD ti0) := by cases l <;> rfl
theorem drop_er (l : List Ti) (k : Nat) : (l.map erT).drop k = (l.drop k).map erT := List.map_drop.symm
theorem binN_er (k : Nat) : erN (binN k) = binN k := by unfold binN; split <;> rfl
theorem erP_mk (kd : Int) (ty tx : List UInt8) (nm pl : Int) (ks : List Pt) : erP (.mk kd ty tx nm pl ks) = .mk kd ty tx nm 0 (erL ks) := by rw [erP]
theorem erL_cons (p : Pt) (l : List Pt) : erL (p :: l) = erP p :: erL l := by rw [erL]
theorem erL_nil : erL [] = [] := by rw [erL]
theorem pF_er : ∀ (f : Nat) (n : Nt) (l : List Ti), erR (pF f n l) = pF f (erN n) (l.map erT)
 | 0, n, l => by rw [pF, pF]; rfl
 | f + 1, n, l => by
  have ih : ∀ {n n' : Nt} {l l' : List Ti}, erN n = n' → l.map erT = l' → erR (pF f n l) = pF f n' l' := fun h1 h2 => by subst h1 h2; exact pF_er f _ _
  have e1 : ∀ t : Ti, (erT t).k = t.k ∧ (erT t).t = t.t ∧ (erT t).x = t.x ∧ (erT t).a = 0 := fun t => ⟨rfl, rfl, rfl, rfl⟩
  have e2 : ∀ t : Ti, namedT (erT t) = namedT t ∧ typedT (erT t) = typedT t ∧ wholeT (erT t) = wholeT t ∧ fstT (erT t) = fstT t := fun t => ⟨rfl, rfl, rfl, rfl⟩
  cases n <;> (rw [erN]; rw [pF]; rw [pF]; repeat' (first
   | rfl
   | (refine er_bnd ?_ fun ps l => ?_)
   | (refine er_tk (fun t => ?_) ?_ fun t l => ?_)
   | (refine er_may ?_ (fun t l => ?_) ?_)
   | (refine er_ite ?_ ?_ ?_)
   | (refine er_ok ?_ ?_) | (refine er_bad ?_)
   | exact ih (binN_er _) rfl
   | (refine ih ?_ ?_)
   | (simp only [erN, erL_app, erL_cons, erL_nil, erP_mk, erP_hd, erP_kd, head_er, drop_er, isA_er]; done)
   | (simp only [erN, erL_app, erL_cons, erL_nil, erP_mk, erP_hd, head_er, drop_er, isA_er]; rfl)
   | (simp; done)))
end Go.Proofs.YtbinaeemcidicaaGreatDoor
namespace Go.Proofs.YtbinaeemcidicaaGreatDoor
def wordB (w : List UInt8) : Bool := !w.isEmpty && decide (w.length ≤ 32) && leB (w.headD 0) && w.all woB
def namB (w : List UInt8) : Bool := wordB w && !isRes w
def sg (s : List UInt8) : Ti := ⟨4, s, 0, 0, 0⟩
def wd (s : List UInt8) : Ti := ⟨1, s, 0, 0, 0⟩
def opK (k : Int) : Bool := decide (k = 13) || decide (k = 14) || decide (k = 15) || decide (k = 16)
def comL : List (List Ti) → List Ti
 | [] => []
 | [a] => a
 | a :: b :: l => a ++ sg [44] :: comL (b :: l)
section
variable (I F : Int → List UInt8)
def bnT (x : Int) : List Ti := if x < 0 then [sg [45], ⟨2, I (-x), -x, 0, 0⟩] else [⟨2, I x, x, 0, 0⟩]
def sidN (p : Pt) (l : List Ti) : List Ti := if opK p.kd = true then sg [40] :: (l ++ [sg [41]]) else l
def layN (kd : Int) (ty tx : List UInt8) (nm : Int) (ks : List Pt) (K : List (List Ti)) : List Ti :=
 let S := fun j => sidN (ks.getD j pt0) (K.getD j [])
 if kd = 1 then K.flatten
 else if kd = 2 then (if tx = [] then [] else [wd tx]) ++ wd ty :: (comL K ++ [sg [59]])
 else if kd = 3 then wd tx :: (if K = [] then [] else sg [61] :: K.getD 0 [])
 else if kd = 4 then wd ty :: wd tx :: sg [40] :: (comL K.dropLast ++ sg [41] :: K.getLastD [])
 else if kd = 5 then [wd ty, wd tx]
 else if kd = 6 then sg [123] :: (K.flatten ++ [sg [125]])
 else if kd = 7 then wd [105, 102] :: sg [40] :: (K.getD 0 [] ++ sg [41] :: (K.getD 1 [] ++ (if 2 < K.length then wd [101, 108, 115, 101] :: K.getD 2 [] else [])))
 else if kd = 8 then wd [102, 111, 114] :: sg [40] :: wd [105, 110, 116] :: wd tx :: sg [61] :: (bnT I (ks.getD 0 pt0).nm ++ sg [59] :: wd tx :: sg [60] :: (bnT I (ks.getD 1 pt0).nm ++ sg [59] :: wd tx :: sg [43, 43] :: sg [41] :: K.getD 2 []))
 else if kd = 9 then wd [114, 101, 116, 117, 114, 110] :: (K.flatten ++ [sg [59]])
 else if kd = 10 then [wd [100, 105, 115, 99, 97, 114, 100], sg [59]]
 else if kd = 11 then K.flatten ++ [sg [59]]
 else if kd = 12 then [sg [59]]
 else if kd = 13 ∨ kd = 15 then S 0 ++ sg tx :: S 1
 else if kd = 14 then S 0 ++ sg [63] :: (S 1 ++ sg [58] :: S 2)
 else if kd = 16 then sg tx :: S 0
 else if kd = 17 then wd tx :: sg [40] :: (comL K ++ [sg [41]])
 else if kd = 18 then S 0 ++ [sg [46], wd tx]
 else if kd = 20 then [⟨2, I nm, nm, 0, 0⟩]
 else if kd = 21 then [⟨3, F nm, nm, 0, 0⟩]
 else [wd tx]
mutual
def layT : Pt → List Ti
 | .mk kd ty tx nm _ ks => layN I F kd ty tx nm ks (layM ks)
def layM : List Pt → List (List Ti)
 | [] => []
 | p :: l => layT p :: layM l
end
end
theorem layM_map (I F : Int → List UInt8) : ∀ l : List Pt, layM I F l = l.map (layT I F)
 | [] => by rw [layM]; rfl
 | p :: l => by rw [layM, layM_map I F l]; rfl
theorem layT_mk (I F : Int → List UInt8) (kd : Int) (ty tx : List UInt8) (nm pl : Int) (ks : List Pt) : layT I F (.mk kd ty tx nm pl ks) = layN I F kd ty tx nm ks (ks.map (layT I F)) := by rw [layT, layM_map]
abbrev sidT (I F : Int → List UInt8) (p : Pt) : List Ti := sidN p (layT I F p)
inductive WE : Pt → Prop
 | asg {tx : List UInt8} {a b : Pt} : tx ∈ asgW → (a.kd = 19 ∨ a.kd = 18) → WE a → WE b → WE (.mk 13 [] tx 0 0 [a, b])
 | cond {a b c : Pt} : WE a → WE b → WE c → WE (.mk 14 [] [] 0 0 [a, b, c])
 | bin {k : Nat} {tx : List UInt8} {a b : Pt} : k < 6 → tx ∈ levW k → WE a → WE b → WE (.mk 15 [] tx 0 0 [a, b])
 | un {tx : List UInt8} {a : Pt} : tx ∈ [[45], [33]] → WE a → WE (.mk 16 [] tx 0 0 [a])
 | call {tx : List UInt8} {l : List Pt} : (namB tx = true ∨ isTyp tx = true) → (∀ p ∈ l, WE p) → WE (.mk 17 [] tx 0 0 l)
 | fld {tx : List UInt8} {a : Pt} : namB tx = true → WE a → WE (.mk 18 [] tx 0 0 [a])
 | nam {tx : List UInt8} : namB tx = true → WE (.mk 19 [] tx 0 0 [])
 | int {x : Int} : 0 ≤ x → x % 65536 = 0 → WE (.mk 20 [] [] x 0 [])
 | flt {x : Int} : 0 ≤ x → WE (.mk 21 [] [] x 0 [])
 | boo {tx : List UInt8} : tx ∈ [[116, 114, 117, 101], [102, 97, 108, 115, 101]] → WE (.mk 22 [] tx 0 0 [])
def Pa (n : Nt) (l : List Ti) (ps : List Pt) (r : List Ti) : Prop := ∃ f0, ∀ f, f0 ≤ f → pF f n l = some (some ps, r)
def Pt2 (n : Nt) (l : List Ti) (n' : Nt) (l' : List Ti) : Prop := ∀ ps r, Pa n' l' ps r → Pa n l ps r
theorem Pt2.trans {n n' n'' : Nt} {l l' l'' : List Ti} (h : Pt2 n l n' l') (h' : Pt2 n' l' n'' l'') : Pt2 n l n'' l'' := fun ps r hp => h ps r (h' ps r hp)
theorem Pa.mk {n : Nt} {l : List Ti} {ps : List Pt} {r : List Ti} (f0 : Nat) (h : ∀ f, f0 ≤ f → pF (f + 1) n l = some (some ps, r)) : Pa n l ps r := ⟨f0 + 1, fun f hf => by
 cases f with
 | zero => omega
 | succ f => exact h f Zf7⟩
theorem nam_word {w : List UInt8} (h : namB w = true) : wordB w = true ∧ isRes w = false := by
 unfold namB at h
 simpa using h
theorem nam_t {w : List UInt8} (h : namB w = true) : namedT (wd w) = true := by
 unfold namedT wd
 rw [(nam_word h).2]
 rfl
theorem typ_t {w : List UInt8} (h : isTyp w = true) : typedT (wd w) = true := by
 unfold typedT wd
 rw [h]
 rfl
theorem nam_no {w : List UInt8} (h : namB w = true) {s : List (List UInt8)} (hs : s.all (fun u => isRes u || !wordB u) = true) : s.contains w = false := by
 obtain ⟨h1, h2⟩ := nam_word h
 cases hc : s.contains w with
 | false => rfl
 | true =>
  have hm : w ∈ s := by simpa using hc
  have := List.all_eq_true.1 hs w hm
  rw [h1, h2] at this
  cases this
theorem typ_no {w : List UInt8} (h : isTyp w = true) {s : List (List UInt8)} (hs : s.all (fun u => !isTyp u) = true) : s.contains w = false := by
 cases hc : s.contains w with
 | false => rfl
 | true =>
  have hm : w ∈ s := by simpa using hc
  have := List.all_eq_true.1 hs w hm
  rw [h] at this
  cases this
theorem isA_wd (s : List (List UInt8)) (w : List UInt8) : isA s (wd w) = s.contains w := by unfold isA wd; simp
theorem isA_sg (s : List (List UInt8)) (w : List UInt8) : isA s (sg w) = s.contains w := by unfold isA sg; simp
def stE (t : Ti) : Prop := ((t.k = 2 ∨ t.k = 3) ∧ t.a = 0) ∨ (∃ w, t = wd w ∧ (namB w = true ∨ isTyp w = true)) ∨ t ∈ [wd [116, 114, 117, 101], wd [102, 97, 108, 115, 101], sg [40], sg [45], sg [33]]
def noSt (u : List UInt8) : Bool := (isRes u || !wordB u) && !isTyp u && ![[116, 114, 117, 101], [102, 97, 108, 115, 101], [40], [45], [33]].contains u
theorem stE_no {t : Ti} (h : stE t) {s : List (List UInt8)} (hs : s.all noSt = true) : isA s t = false := by
 have hall : ∀ u ∈ s, noSt u = true := List.all_eq_true.1 hs
 have key : ∀ w, (∀ u ∈ s, u ≠ w) → s.contains w = false := fun w hw => by
  cases hc : s.contains w with
  | false => rfl
  | true => exact absurd rfl (hw w (by simpa using hc))
 rcases h with ⟨h, _⟩ | ⟨w, rfl, h⟩ | h
 ·unfold isA
  rcases h with h | h <;> rw [h] <;> rfl
 ·rw [isA_wd]
  rcases h with h | h
  ·refine nam_no h (List.all_eq_true.2 fun u hu => ?_)
   have := hall u hu
   unfold noSt at this
   simp only [Bool.and_eq_true] at this
   exact this.1.1
  ·refine typ_no h (List.all_eq_true.2 fun u hu => ?_)
   have := hall u hu
   unfold noSt at this
   simp only [Bool.and_eq_true] at this
   exact this.1.2
 ·have hk : ∀ w ∈ [[116, 114, 117, 101], [102, 97, 108, 115, 101], [40], [45], [33]], s.contains w = false := fun w hw => key w fun u hu e => by
   subst e
   have := hall u hu
   unfold noSt at this
   simp only [Bool.and_eq_true, Bool.not_eq_true'] at this
   have h2 : ([116, 114, 117, 101] :: [[102, 97, 108, 115, 101], [40], [45], [33]] : List (List UInt8)).contains u = true := by simpa using hw
   rw [h2] at this
   cases this.2
  simp only [List.mem_cons, List.not_mem_nil, or_false] at h
  rcases h with rfl | rfl | rfl | rfl | rfl
  ·rw [isA_wd]; exact hk _ Zf6
  ·rw [isA_wd]; exact hk _ Zf6
  ·rw [isA_sg]; exact hk _ Zf6
  ·rw [isA_sg]; exact hk _ Zf6
  ·rw [isA_sg]; exact hk _ Zf6
theorem stE_a {t : Ti} (h : stE t) : t.a = 0 := by
 rcases h with ⟨_, h⟩ | ⟨w, rfl, _⟩ | h
 ·exact h
 ·rfl
 ·simp only [List.mem_cons, List.not_mem_nil, or_false] at h
  rcases h with rfl | rfl | rfl | rfl | rfl <;> rfl
def folE (r : List Ti) : Prop := ∃ w ∈ [[41], [44], [59], [58]], r.headD ti0 = sg w
theorem fol_no {r : List Ti} (h : folE r) {s : List (List UInt8)} (hs : s.all (fun u => ![[41], [44], [59], [58]].contains u) = true) : hNo s r := by
 obtain ⟨w, hw, h⟩ := h
 unfold hNo
 rw [h, isA_sg]
 cases hc : s.contains w with
 | false => rfl
 | true =>
  have := List.all_eq_true.1 hs w (by simpa using hc)
  have h2 : [[41], [44], [59], [58]].contains w = true := by simpa using hw
  rw [h2] at this
  cases this
end Go.Proofs.YtbinaeemcidicaaGreatDoor
namespace Go.Proofs.YtbinaeemcidicaaGreatDoor
section
variable (I F : Int → List UInt8)
theorem sid_op {p : Pt} (h : opK p.kd = true) : sidT I F p = sg [40] :: (layT I F p ++ [sg [41]]) := by unfold sidT sidN; rw [if_pos h]
theorem sid_no {p : Pt} (h : opK p.kd = false) : sidT I F p = layT I F p := by unfold sidT sidN; rw [if_neg (by rw [h]; decide)]
theorem lay_asg (tx : List UInt8) (a b : Pt) : layT I F (.mk 13 [] tx 0 0 [a, b]) = sidT I F a ++ sg tx :: sidT I F b := by rw [layT_mk]; rfl
theorem lay_bin (tx : List UInt8) (a b : Pt) : layT I F (.mk 15 [] tx 0 0 [a, b]) = sidT I F a ++ sg tx :: sidT I F b := by rw [layT_mk]; rfl
theorem lay_cond (a b c : Pt) : layT I F (.mk 14 [] [] 0 0 [a, b, c]) = sidT I F a ++ sg [63] :: (sidT I F b ++ sg [58] :: sidT I F c) := by rw [layT_mk]; rfl
theorem lay_un (tx : List UInt8) (a : Pt) : layT I F (.mk 16 [] tx 0 0 [a]) = sg tx :: sidT I F a := by rw [layT_mk]; rfl
theorem lay_call (tx : List UInt8) (l : List Pt) : layT I F (.mk 17 [] tx 0 0 l) = wd tx :: sg [40] :: (comL (l.map (layT I F)) ++ [sg [41]]) := by rw [layT_mk]; rfl
theorem lay_fld (tx : List UInt8) (a : Pt) : layT I F (.mk 18 [] tx 0 0 [a]) = sidT I F a ++ [sg [46], wd tx] := by rw [layT_mk]; rfl
theorem lay_nam (tx : List UInt8) : layT I F (.mk 19 [] tx 0 0 []) = [wd tx] := by rw [layT_mk]; rfl
theorem lay_int (x : Int) : layT I F (.mk 20 [] [] x 0 []) = [⟨2, I x, x, 0, 0⟩] := by rw [layT_mk]; rfl
theorem lay_flt (x : Int) : layT I F (.mk 21 [] [] x 0 []) = [⟨3, F x, x, 0, 0⟩] := by rw [layT_mk]; rfl
theorem lay_boo (tx : List UInt8) : layT I F (.mk 22 [] tx 0 0 []) = [wd tx] := by rw [layT_mk]; rfl
def begE (l : List Ti) : Prop := ∃ t r, l = t :: r ∧ stE t
theorem begE.app {l r : List Ti} (h : begE l) : begE (l ++ r) := by
 obtain ⟨t, q, rfl, h⟩ := h
 exact ⟨t, q ++ r, rfl, h⟩
theorem begE.no {l : List Ti} (h : begE l) {s : List (List UInt8)} (hs : s.all noSt = true) : hNo s l := by
 obtain ⟨t, q, rfl, h⟩ := h
 exact stE_no h hs
theorem sid_beg {p : Pt} (h : begE (layT I F p)) : begE (sidT I F p) := by
 cases ho : opK p.kd with
 | true =>
  rw [sid_op I F ho]
  exact ⟨_, _, rfl, .inr (.inr (by simp [sg, wd]))⟩
 | false => rw [sid_no I F ho]; exact h
theorem lay_beg {p : Pt} (h : WE p) : begE (layT I F p) := by
 induction h with
 | asg _ _ _ _ iha _ => rw [lay_asg]; exact (sid_beg I F iha).app
 | cond _ _ _ iha _ _ => rw [lay_cond]; exact (sid_beg I F iha).app
 | bin _ _ _ _ iha _ => rw [lay_bin]; exact (sid_beg I F iha).app
 | un ht _ _ =>
  rw [lay_un]
  simp only [List.mem_cons, List.not_mem_nil, or_false] at ht
  rcases ht with rfl | rfl
  ·exact ⟨_, _, rfl, .inr (.inr (by simp [sg, wd]))⟩
  ·exact ⟨_, _, rfl, .inr (.inr (by simp [sg, wd]))⟩
 | call ht _ _ => rw [lay_call]; exact ⟨_, _, rfl, .inr (.inl ⟨_, rfl, ht⟩)⟩
 | fld _ _ iha => rw [lay_fld]; exact (sid_beg I F iha).app
 | nam ht => rw [lay_nam]; exact ⟨_, _, rfl, .inr (.inl ⟨_, rfl, .inl ht⟩)⟩
 | int _ _ => rw [lay_int]; exact ⟨_, _, rfl, .inl ⟨.inl rfl, rfl⟩⟩
 | flt _ => rw [lay_flt]; exact ⟨_, _, rfl, .inl ⟨.inr rfl, rfl⟩⟩
 | boo ht =>
  rw [lay_boo]
  simp only [List.mem_cons, List.not_mem_nil, or_false] at ht
  rcases ht with rfl | rfl
  ·exact ⟨_, _, rfl, .inr (.inr (by simp [sg, wd]))⟩
  ·exact ⟨_, _, rfl, .inr (.inr (by simp [sg, wd]))⟩
end
theorem un_fst {l r : List Ti} {p : Pt} (hn : hNo [[45], [33]] l) (h : Pa .fst l [p] r) : Pt2 .un l (.fld p) r := fun ps r' hp => by
 obtain ⟨f1, h1⟩ := h
 obtain ⟨f2, h2⟩ := hp
 refine Pa.mk (max f1 f2) fun f hf => ?_
 rw [pF, may_no hn, bnd_of (h1 f Zf7)]
 exact h2 f Zf7
theorem fld_step {p : Pt} {tx : List UInt8} {r : List Ti} (h : namB tx = true) : Pt2 (.fld p) (sg [46] :: wd tx :: r) (.fld (.mk 18 [] tx 0 0 [p])) r := fun ps r' hp => by
 obtain ⟨f1, h1⟩ := hp
 refine Pa.mk f1 fun f hf => ?_
 rw [pF, may_yes Zf6, tk_yes (nam_t h)]
 exact h1 f hf
theorem fld_stop {p : Pt} {r : List Ti} (h : hNo [[46]] r) : Pa (.fld p) r [p] r := Pa.mk 0 fun f _ => by
 rw [pF, may_no h]
 rfl
theorem bin_stop {k : Nat} {l r : List Ti} {p : Pt} (h : Pa (binN k) l [p] r) (hn : hNo (levW k) r) : Pa (.bin k) l [p] r := by
 obtain ⟨f1, h1⟩ := h
 refine Pa.mk (f1 + 1) fun f hf => ?_
 rw [pF, bnd_of (h1 f Zf7)]
 cases f with
 | zero => omega
 | succ f =>
  show pF (f + 1) (.binL k p) r = _
  rw [pF, may_no hn]
  rfl
theorem bin_op {k : Nat} {l l' r : List Ti} {a b : Pt} {tx : List UInt8} (ht : tx ∈ levW k) (ha : Pa (binN k) l [a] (sg tx :: l')) (hb : Pa (binN k) l' [b] r) (hn : hNo (levW k) r) : Pa (.bin k) l [.mk 15 [] tx 0 0 [a, b]] r := by
 obtain ⟨f1, h1⟩ := ha
 obtain ⟨f2, h2⟩ := hb
 refine Pa.mk (max f1 f2 + 2) fun f hf => ?_
 rw [pF, bnd_of (h1 f Zf7)]
 obtain ⟨f, rfl⟩ : ∃ g, f = g + 2 := ⟨f - 2, by omega⟩
 show pF (f + 2) (.binL k a) (sg tx :: l') = _
 rw [pF, may_yes (by rw [isA_sg]; simpa using ht), bnd_of (h2 (f + 1) Zf7)]
 show pF (f + 1) (.binL k _) r = _
 rw [pF, may_no hn]
 rfl
def noLev (k : Nat) (r : List Ti) : Prop := ∀ j, k ≤ j → j < 6 → hNo (levW j) r
theorem bin_lift {l r : List Ti} {p : Pt} (h : Pa .un l [p] r) : ∀ (m k : Nat), m + k = 6 → noLev k r → Pa (if k < 6 then .bin k else .un) l [p] r
 | 0, k, hk, _ => by rw [if_neg Zf7]; exact h
 | m + 1, k, hk, hn => by
  have ih := bin_lift h m (k + 1) Zf7 fun j hj hj6 => hn j Zf7 hj6
  rw [if_pos Zf7]
  refine bin_stop ?_ (hn k (Nat.le_refl _) Zf7)
  unfold binN
  by_cases h5 : k < 5
  ·rw [if_pos Zf7] at ih; rw [if_pos h5]; exact ih
  ·rw [if_neg Zf7] at ih; rw [if_neg h5]; exact ih
theorem binN_lift {l r : List Ti} {p : Pt} (h : Pa .un l [p] r) {k : Nat} (hk : k < 6) (hn : noLev (k + 1) r) : Pa (binN k) l [p] r := by
 have := bin_lift h (5 - k) (k + 1) Zf7 hn
 unfold binN
 by_cases h5 : k < 5
 ·rw [if_pos Zf7] at this; rw [if_pos h5]; exact this
 ·rw [if_neg Zf7] at this; rw [if_neg h5]; exact this
theorem bin0_of {l r : List Ti} {p : Pt} : ∀ (k : Nat), k < 6 → noLev 0 r → Pa (.bin k) l [p] r → Pa (.bin 0) l [p] r
 | 0, _, _, h => h
 | k + 1, hk, hn, h => by
  refine bin0_of k Zf7 hn (bin_stop ?_ (hn k Zf7 Zf7))
  unfold binN
  rw [if_pos Zf7]
  exact h
theorem cond_stop {l r : List Ti} {p : Pt} (h : Pa (.bin 0) l [p] r) (hn : hNo [[63]] r) : Pa .cond l [p] r := by
 obtain ⟨f1, h1⟩ := h
 refine Pa.mk f1 fun f hf => ?_
 rw [pF, bnd_of (h1 f hf), may_no hn]
 rfl
theorem cond_op {l l1 l2 r : List Ti} {a b c : Pt} (ha : Pa (.bin 0) l [a] (sg [63] :: l1)) (hb : Pa .expr l1 [b] (sg [58] :: l2)) (hc : Pa .cond l2 [c] r) : Pa .cond l [.mk 14 [] [] 0 0 [a, b, c]] r := by
 obtain ⟨f1, h1⟩ := ha
 obtain ⟨f2, h2⟩ := hb
 obtain ⟨f3, h3⟩ := hc
 refine Pa.mk (max f1 (max f2 f3)) fun f hf => ?_
 rw [pF, bnd_of (h1 f Zf7), may_yes Zf6, bnd_of (h2 f Zf7), tk_yes Zf6, bnd_of (h3 f Zf7)]
 rfl
theorem expr_stop {l r : List Ti} {p : Pt} (h : Pa .cond l [p] r) (hn : hNo asgW r) : Pa .expr l [p] r := by
 obtain ⟨f1, h1⟩ := h
 refine Pa.mk f1 fun f hf => ?_
 rw [pF, bnd_of (h1 f hf), may_no hn]
 split <;> rfl
theorem expr_op {l l' r : List Ti} {a b : Pt} {tx : List UInt8} (hk : a.kd = 19 ∨ a.kd = 18) (ht : tx ∈ asgW) (ha : Pa .cond l [a] (sg tx :: l')) (hb : Pa .expr l' [b] r) : Pa .expr l [.mk 13 [] tx 0 0 [a, b]] r := by
 obtain ⟨f1, h1⟩ := ha
 obtain ⟨f2, h2⟩ := hb
 refine Pa.mk (max f1 f2) fun f hf => ?_
 rw [pF, bnd_of (h1 f Zf7), if_pos (show (hdP [a]).kd = 19 ∨ (hdP [a]).kd = 18 from hk), may_yes (by rw [isA_sg]; simpa using ht), bnd_of (h2 f Zf7)]
 rfl
theorem un_op {l r : List Ti} {a : Pt} {tx : List UInt8} (ht : tx ∈ [[45], [33]]) (ha : Pa .un l [a] r) : Pa .un (sg tx :: l) [.mk 16 [] tx 0 0 [a]] r := by
 obtain ⟨f1, h1⟩ := ha
 refine Pa.mk f1 fun f hf => ?_
 rw [pF, may_yes (by rw [isA_sg]; simpa using ht), bnd_of (h1 f hf)]
 rfl
theorem fst_par {l r : List Ti} {p : Pt} (h : Pa .expr l [p] (sg [41] :: r)) : Pa .fst (sg [40] :: l) [p] r := by
 obtain ⟨f1, h1⟩ := h
 refine Pa.mk f1 fun f hf => ?_
 rw [pF, tk_yes Zf6, if_neg Zf6, if_pos Zf6, bnd_of (h1 f hf), tk_yes Zf6]
 rfl
theorem fst_num {t : Ti} {r : List Ti} (h : t.k = 2 ∨ t.k = 3) : Pa .fst (t :: r) [.mk (20 + t.k - 2) [] [] t.x t.a []] r := Pa.mk 0 fun f _ => by
 rw [pF, tk_yes, if_pos h]
 ·rfl
 ·unfold fstT
  rcases h with h | h <;> rw [h] <;> rfl
theorem fst_boo {tx : List UInt8} {r : List Ti} (h : tx ∈ [[116, 114, 117, 101], [102, 97, 108, 115, 101]]) : Pa .fst (wd tx :: r) [.mk 22 [] tx 0 0 []] r := Pa.mk 0 fun f _ => by
 simp only [List.mem_cons, List.not_mem_nil, or_false] at h
 rcases h with rfl | rfl
 ·rw [pF, tk_yes Zf6, if_neg Zf6, if_neg Zf6, if_pos Zf6]; rfl
 ·rw [pF, tk_yes Zf6, if_neg Zf6, if_neg Zf6, if_pos Zf6]; rfl
theorem fst_wd {tx : List UInt8} (h : namB tx = true ∨ isTyp tx = true) : fstT (wd tx) = true ∧ ¬((wd tx).k = 2 ∨ (wd tx).k = 3) ∧ ¬isA [[40]] (wd tx) = true ∧ ¬isA [[116, 114, 117, 101], [102, 97, 108, 115, 101]] (wd tx) = true := by
 refine ⟨?_, by simp [wd], ?_, ?_⟩
 ·unfold fstT
  rcases h with h | h
  ·rw [nam_t h]; simp
  ·rw [typ_t h]; simp
 ·rw [isA_wd]
  rcases h with h | h
  ·rw [nam_no h Zf6]; decide
  ·rw [typ_no h Zf6]; decide
 ·rw [isA_wd]
  rcases h with h | h
  ·rw [nam_no h Zf6]; decide
  ·rw [typ_no h Zf6]; decide
theorem fst_nam {tx : List UInt8} {r : List Ti} (h : namB tx = true) (hn : hNo [[40]] r) : Pa .fst (wd tx :: r) [.mk 19 [] tx 0 0 []] r := Pa.mk 0 fun f _ => by
 obtain ⟨h1, h2, h3, h4⟩ := fst_wd (.inl h)
 rw [pF, tk_yes h1, if_neg h2, if_neg h3, if_neg h4, if_pos ⟨nam_t h, by rw [hn]; decide⟩]
 rfl
theorem fst_call {tx : List UInt8} {l r : List Ti} {ps : List Pt} (h : namB tx = true ∨ isTyp tx = true) (hl : Pa .list l ps r) : Pa .fst (wd tx :: sg [40] :: l) [.mk 17 [] tx 0 0 ps] r := by
 obtain ⟨f1, h5⟩ := hl
 refine Pa.mk f1 fun f hf => ?_
 obtain ⟨h1, h2, h3, h4⟩ := fst_wd h
 rw [pF, tk_yes h1, if_neg h2, if_neg h3, if_neg h4, if_neg (fun e => e.2 rfl), tk_yes Zf6, bnd_of (h5 f hf)]
 rfl
theorem args_ok (I F : Int → List UInt8) (r : List Ti) : ∀ (l : List Pt) (p : Pt) (acc : List Pt), (∀ q ∈ p :: l, ∀ r', folE r' → Pa .expr (layT I F q ++ r') [q] r') → Pa (.args acc) (comL ((p :: l).map (layT I F)) ++ sg [41] :: r) (acc ++ p :: l) r
 | [], p, acc, h => by
  obtain ⟨f1, h1⟩ := h p (List.Mem.head _) (sg [41] :: r) ⟨_, by decide, rfl⟩
  refine Pa.mk f1 fun f hf => ?_
  show pF (f + 1) (.args acc) (layT I F p ++ sg [41] :: r) = _
  rw [pF, bnd_of (h1 f hf), may_no rfl, tk_yes Zf6]
  rfl
 | q :: l, p, acc, h => by
  have ih := args_ok I F r l q (acc ++ [p]) fun q' hq => h q' (List.Mem.tail _ hq)
  obtain ⟨f2, h2⟩ := ih
  obtain ⟨l', hl'⟩ : ∃ l', comL ((q :: l).map (layT I F)) ++ sg [41] :: r = l' := ⟨_, rfl⟩
  have e : comL ((p :: q :: l).map (layT I F)) ++ sg [41] :: r = layT I F p ++ sg [44] :: l' := by
   rw [← hl']
   simp only [List.map_cons, comL, List.append_assoc, List.cons_append]
  rw [hl'] at h2
  obtain ⟨f1, h1⟩ := h p (List.Mem.head _) (sg [44] :: l') ⟨_, by decide, rfl⟩
  rw [e]
  refine Pa.mk (max f1 f2) fun f hf => ?_
  rw [pF, bnd_of (h1 f Zf7), may_yes Zf6]
  show pF f (.args (acc ++ [p])) l' = _
  rw [h2 f Zf7, List.append_assoc]
  rfl
theorem listE_ok (I F : Int → List UInt8) (r : List Ti) (l : List Pt) (hw : ∀ q ∈ l, WE q) (h : ∀ q ∈ l, ∀ r', folE r' → Pa .expr (layT I F q ++ r') [q] r') : Pa .list (comL (l.map (layT I F)) ++ sg [41] :: r) l r := by
 cases l with
 | nil =>
  refine Pa.mk 0 fun f _ => ?_
  show pF (f + 1) .list (sg [41] :: r) = _
  rw [pF, may_yes Zf6]
  rfl
 | cons p l =>
  obtain ⟨f1, h1⟩ := args_ok I F r l p [] h
  refine Pa.mk f1 fun f hf => ?_
  have hb : begE (comL ((p :: l).map (layT I F)) ++ sg [41] :: r) := by
   have := lay_beg I F (hw p (List.Mem.head _))
   cases l with
   | nil => exact this.app
   | cons q l => exact (this.app).app
  rw [pF, may_no (hb.no Zf6)]
  exact h1 f hf
def folS (r : List Ti) : Prop := hNo [[40]] r ∧ hNo [[46]] r
theorem E_ok (I F : Int → List UInt8) {p : Pt} (h : WE p) : (∀ r, hNo [[40]] r → Pt2 .un (sidT I F p ++ r) (.fld p) r) ∧ (∀ r, folE r → Pa .expr (layT I F p ++ r) [p] r) := by
 have lev : ∀ {r}, folE r → noLev 0 r := fun hr j _ hj => by
  have : j = 0 ∨ j = 1 ∨ j = 2 ∨ j = 3 ∨ j = 4 ∨ j = 5 := by omega
  rcases this with rfl | rfl | rfl | rfl | rfl | rfl <;> exact fol_no hr Zf6
 have sun : ∀ {p : Pt} {r}, (∀ r, hNo [[40]] r → Pt2 .un (sidT I F p ++ r) (.fld p) r) → folS r → Pa .un (sidT I F p ++ r) [p] r := fun hs hr => hs _ hr.1 _ _ (fld_stop hr.2)
 have fS : ∀ {r}, folE r → folS r := fun hr => ⟨fol_no hr Zf6, fol_no hr Zf6⟩
 have scond : ∀ {p : Pt} {r}, (∀ r, hNo [[40]] r → Pt2 .un (sidT I F p ++ r) (.fld p) r) → folE r → Pa .cond (sidT I F p ++ r) [p] r := fun hs hr => cond_stop (bin_lift (sun hs (fS hr)) 6 0 rfl (lev hr)) (fol_no hr Zf6)
 have sexp : ∀ {p : Pt} {r}, (∀ r, hNo [[40]] r → Pt2 .un (sidT I F p ++ r) (.fld p) r) → folE r → Pa .expr (sidT I F p ++ r) [p] r := fun hs hr => expr_stop (scond hs hr) (fol_no hr Zf6)
 have par : ∀ {p : Pt}, opK p.kd = true → (∀ r, folE r → Pa .expr (layT I F p ++ r) [p] r) → ∀ r, hNo [[40]] r → Pt2 .un (sidT I F p ++ r) (.fld p) r := fun ho he r _ => by
  rw [sid_op I F ho]
  refine un_fst rfl ?_
  have := fst_par (he (sg [41] :: r) ⟨_, by decide, rfl⟩)
  simpa using this
 have nop : ∀ {p : Pt}, opK p.kd = false → (∀ r, hNo [[40]] r → Pt2 .un (layT I F p ++ r) (.fld p) r) → (∀ r, hNo [[40]] r → Pt2 .un (sidT I F p ++ r) (.fld p) r) ∧ (∀ r, folE r → Pa .expr (layT I F p ++ r) [p] r) := fun {p} ho hs => by
  have hs' : ∀ r, hNo [[40]] r → Pt2 .un (sidT I F p ++ r) (.fld p) r := by rw [sid_no I F ho]; exact hs
  refine ⟨hs', fun r hr => ?_⟩
  have := sexp hs' hr
  rwa [sid_no I F ho] at this
 have opx : ∀ {p : Pt}, opK p.kd = true → (∀ r, folE r → Pa .expr (layT I F p ++ r) [p] r) → (∀ r, hNo [[40]] r → Pt2 .un (sidT I F p ++ r) (.fld p) r) ∧ (∀ r, folE r → Pa .expr (layT I F p ++ r) [p] r) := fun ho he => ⟨par ho he, he⟩
 have sgS : ∀ {w : List UInt8} {r : List Ti}, w ≠ [40] → w ≠ [46] → folS (sg w :: r) := fun {w r} h1 h2 => by
  constructor
  ·show isA _ (sg w) = false
   rw [isA_sg]; simpa using h1
  ·show isA _ (sg w) = false
   rw [isA_sg]; simpa using h2
 induction h with
 | @asg tx a b ht hk _ _ iha ihb =>
  refine opx rfl fun r hr => ?_
  rw [lay_asg, List.append_assoc]
  have n1 : tx ≠ [40] ∧ tx ≠ [46] := by
   constructor <;> (rintro rfl; revert ht; decide)
  have n2 : hNo [[63]] (sg tx :: (sidT I F b ++ r)) := by
   show isA _ (sg tx) = false
   rw [isA_sg]
   have : tx ≠ [63] := by rintro rfl; revert ht; decide
   simpa using this
  have n3 : noLev 0 (sg tx :: (sidT I F b ++ r)) := fun j _ hj => by
   show isA _ (sg tx) = false
   rw [isA_sg]
   have hall : ∀ w ∈ asgW, ∀ j : Fin 6, (levW j.val).contains w = false := by decide
   exact hall tx ht ⟨j, hj⟩
  exact expr_op hk ht (cond_stop (bin_lift (sun iha.1 (sgS n1.1 n1.2)) 6 0 rfl n3) n2) (sexp ihb.1 hr)
 | @cond a b c _ _ _ iha ihb ihc =>
  refine opx rfl fun r hr => ?_
  rw [lay_cond]
  simp only [List.append_assoc, List.cons_append]
  refine expr_stop (cond_op (bin_lift (sun iha.1 (sgS Zf6 Zf6)) 6 0 rfl fun j _ hj => ?_) (sexp ihb.1 ⟨_, by decide, rfl⟩) (scond ihc.1 hr)) (fol_no hr Zf6)
  have : j = 0 ∨ j = 1 ∨ j = 2 ∨ j = 3 ∨ j = 4 ∨ j = 5 := by omega
  rcases this with rfl | rfl | rfl | rfl | rfl | rfl <;> rfl
 | @bin k tx a b hk ht _ _ iha ihb =>
  refine opx rfl fun r hr => ?_
  rw [lay_bin, List.append_assoc]
  have hall : ∀ k : Fin 6, ∀ w ∈ levW k.val, (w ≠ [40] ∧ w ≠ [46]) ∧ ∀ j : Fin 6, k.val < j.val → (levW j.val).contains w = false := by decide
  obtain ⟨n1, n2⟩ := hall ⟨k, hk⟩ tx ht
  have n3 : noLev (k + 1) (sg tx :: (sidT I F b ++ r)) := fun j hj hj6 => by
   show isA _ (sg tx) = false
   rw [isA_sg]
   exact n2 ⟨j, hj6⟩ hj
  have hb := bin_op ht (binN_lift (sun iha.1 (sgS n1.1 n1.2)) hk n3) (binN_lift (sun ihb.1 (fS hr)) hk fun j _ hj6 => lev hr j Zf7 hj6) (lev hr k Zf7 hk)
  exact expr_stop (cond_stop (bin0_of k hk (lev hr) hb) (fol_no hr Zf6)) (fol_no hr Zf6)
 | @un tx a ht _ iha =>
  refine opx rfl fun r hr => ?_
  rw [lay_un]
  exact expr_stop (cond_stop (bin_lift (un_op ht (sun iha.1 (fS hr))) 6 0 rfl (lev hr)) (fol_no hr Zf6)) (fol_no hr Zf6)
 | @call tx l ht hw ih =>
  refine nop rfl fun r hr => ?_
  rw [lay_call]
  simp only [List.cons_append, List.append_assoc, List.nil_append]
  refine un_fst ?_ (fst_call ht (listE_ok I F r l hw fun q hq => (ih q hq).2))
  show isA _ (wd tx) = false
  rw [isA_wd]
  rcases ht with ht | ht
  ·exact nam_no ht Zf6
  ·exact typ_no ht Zf6
 | @fld tx a ht _ iha =>
  refine nop rfl fun r hr => ?_
  rw [lay_fld, List.append_assoc]
  exact (iha.1 (sg [46] :: wd tx :: r) rfl).trans (fld_step ht)
 | @nam tx ht =>
  refine nop rfl fun r hr => ?_
  rw [lay_nam]
  refine un_fst ?_ (fst_nam ht hr)
  show isA _ (wd tx) = false
  rw [isA_wd]
  exact nam_no ht Zf6
 | @int x h0 h1 =>
  refine nop rfl fun r hr => ?_
  rw [lay_int]
  exact un_fst rfl (fst_num (t := ⟨2, I x, x, 0, 0⟩) (.inl rfl))
 | @flt x h0 =>
  refine nop rfl fun r hr => ?_
  rw [lay_flt]
  exact un_fst rfl (fst_num (t := ⟨3, F x, x, 0, 0⟩) (.inr rfl))
 | @boo tx ht =>
  refine nop rfl fun r hr => ?_
  rw [lay_boo]
  refine un_fst ?_ (fst_boo ht)
  show isA _ (wd tx) = false
  simp only [List.mem_cons, List.not_mem_nil, or_false] at ht
  rcases ht with rfl | rfl <;> decide
end Go.Proofs.YtbinaeemcidicaaGreatDoor
namespace Go.Proofs.YtbinaeemcidicaaGreatDoor
mutual
def opnP : Pt → Bool
 | .mk kd _ _ _ _ ks => if kd = 7 ∧ ks.length = 2 then true else if kd = 7 ∨ kd = 8 then (opnL ks).getD 2 false else false
def opnL : List Pt → List Bool
 | [] => []
 | p :: l => opnP p :: opnL l
end
theorem opn_if2 (pl : Int) (a s : Pt) : opnP (.mk 7 [] [] 0 pl [a, s]) = true := by rw [opnP]; rfl
theorem opn_if3 (pl : Int) (a s t : Pt) : opnP (.mk 7 [] [] 0 pl [a, s, t]) = opnP t := by rw [opnP, opnL, opnL, opnL]; rfl
theorem opn_for (tx : List UInt8) (pl : Int) (a s t : Pt) : opnP (.mk 8 [] tx 0 pl [a, s, t]) = opnP t := by rw [opnP, opnL, opnL, opnL]; rfl
inductive WV : Pt → Prop
 | v0 {tx : List UInt8} : namB tx = true → WV (.mk 3 [] tx 0 0 [])
 | v1 {tx : List UInt8} {e : Pt} : namB tx = true → WE e → WV (.mk 3 [] tx 0 0 [e])
inductive WB : Int → Prop
 | mk {x : Int} : x % 65536 = 0 → -2147483648 < x → WB x
inductive WS : Pt → Prop
 | blk {l : List Pt} : (∀ p ∈ l, WS p) → WS (.mk 6 [] [] 0 0 l)
 | decl {ty tx : List UInt8} {l : List Pt} : (tx = [] ∨ tx = [99, 111, 110, 115, 116]) → isTyp ty = true → l ≠ [] → (∀ v ∈ l, WV v) → WS (.mk 2 ty tx 0 0 l)
 | if2 {a s : Pt} : WE a → WS s → WS (.mk 7 [] [] 0 0 [a, s])
 | if3 {a s t : Pt} : WE a → WS s → opnP s = false → WS t → WS (.mk 7 [] [] 0 0 [a, s, t])
 | for {tx : List UInt8} {x y : Int} {s : Pt} : namB tx = true → WB x → WB y → WS s → WS (.mk 8 [] tx 0 0 [.mk 20 [] [] x 0 [], .mk 20 [] [] y 0 [], s])
 | ret0 : WS (.mk 9 [] [] 0 0 [])
 | ret1 {a : Pt} : WE a → WS (.mk 9 [] [] 0 0 [a])
 | disc : WS (.mk 10 [] [] 0 0 [])
 | exp {a : Pt} : WE a → WS (.mk 11 [] [] 0 0 [a])
 | emp : WS (.mk 12 [] [] 0 0 [])
inductive WM : Pt → Prop
 | mk {ty tx : List UInt8} : isTyp ty = true → namB tx = true → WM (.mk 5 ty tx 0 0 [])
inductive WT : Pt → Prop
 | decl {ty tx : List UInt8} {l : List Pt} : (tx = [] ∨ isQua tx = true) → isTyp ty = true → l ≠ [] → (∀ v ∈ l, WV v) → WT (.mk 2 ty tx 0 0 l)
 | func {ty tx : List UInt8} {ps l : List Pt} : isTyp ty = true → namB tx = true → (∀ p ∈ ps, WM p) → (∀ p ∈ l, WS p) → WT (.mk 4 ty tx 0 0 (ps ++ [.mk 6 [] [] 0 0 l]))
inductive WH : Pt → Prop
 | mk {l : List Pt} : (∀ p ∈ l, WT p) → WH (.mk 1 [] [] 0 0 l)
section
variable (I F : Int → List UInt8)
theorem lay_decl (ty tx : List UInt8) (l : List Pt) : layT I F (.mk 2 ty tx 0 0 l) = (if tx = [] then [] else [wd tx]) ++ wd ty :: (comL (l.map (layT I F)) ++ [sg [59]]) := by rw [layT_mk]; rfl
theorem lay_v0 (tx : List UInt8) : layT I F (.mk 3 [] tx 0 0 []) = [wd tx] := by rw [layT_mk]; rfl
theorem lay_v1 (tx : List UInt8) (e : Pt) : layT I F (.mk 3 [] tx 0 0 [e]) = wd tx :: sg [61] :: layT I F e := by rw [layT_mk]; rfl
theorem lay_prm (ty tx : List UInt8) : layT I F (.mk 5 ty tx 0 0 []) = [wd ty, wd tx] := by rw [layT_mk]; rfl
theorem lay_blk (l : List Pt) : layT I F (.mk 6 [] [] 0 0 l) = sg [123] :: ((l.map (layT I F)).flatten ++ [sg [125]]) := by rw [layT_mk]; rfl
theorem lay_func (ty tx : List UInt8) (ps : List Pt) (b : Pt) : layT I F (.mk 4 ty tx 0 0 (ps ++ [b])) = wd ty :: wd tx :: sg [40] :: (comL (ps.map (layT I F)) ++ sg [41] :: layT I F b) := by
 rw [layT_mk]
 have h1 : ((ps ++ [b]).map (layT I F)).dropLast = ps.map (layT I F) := by simp
 have h2 : ((ps ++ [b]).map (layT I F)).getLastD [] = layT I F b := by simp
 show wd ty :: wd tx :: sg [40] :: (comL ((ps ++ [b]).map (layT I F)).dropLast ++ sg [41] :: ((ps ++ [b]).map (layT I F)).getLastD []) = _
 rw [h1, h2]
theorem lay_if2 (a s : Pt) : layT I F (.mk 7 [] [] 0 0 [a, s]) = wd [105, 102] :: sg [40] :: (layT I F a ++ sg [41] :: layT I F s) := by
 rw [layT_mk]
 show wd [105, 102] :: sg [40] :: (layT I F a ++ sg [41] :: (layT I F s ++ [])) = _
 rw [List.append_nil]
theorem lay_if3 (a s t : Pt) : layT I F (.mk 7 [] [] 0 0 [a, s, t]) = wd [105, 102] :: sg [40] :: (layT I F a ++ sg [41] :: (layT I F s ++ wd [101, 108, 115, 101] :: layT I F t)) := by rw [layT_mk]; rfl
theorem lay_for (tx : List UInt8) (x y : Int) (s : Pt) : layT I F (.mk 8 [] tx 0 0 [.mk 20 [] [] x 0 [], .mk 20 [] [] y 0 [], s]) =
  wd [102, 111, 114] :: sg [40] :: wd [105, 110, 116] :: wd tx :: sg [61] :: (bnT I x ++ sg [59] :: wd tx :: sg [60] :: (bnT I y ++ sg [59] :: wd tx :: sg [43, 43] :: sg [41] :: layT I F s)) := by rw [layT_mk]; rfl
theorem lay_ret0 : layT I F (.mk 9 [] [] 0 0 []) = [wd [114, 101, 116, 117, 114, 110], sg [59]] := by rw [layT_mk]; rfl
theorem lay_ret1 (a : Pt) : layT I F (.mk 9 [] [] 0 0 [a]) = wd [114, 101, 116, 117, 114, 110] :: (layT I F a ++ [sg [59]]) := by
 rw [layT_mk]
 show wd [114, 101, 116, 117, 114, 110] :: ([layT I F a].flatten ++ [sg [59]]) = _
 simp
theorem lay_disc : layT I F (.mk 10 [] [] 0 0 []) = [wd [100, 105, 115, 99, 97, 114, 100], sg [59]] := by rw [layT_mk]; rfl
theorem lay_exp (a : Pt) : layT I F (.mk 11 [] [] 0 0 [a]) = layT I F a ++ [sg [59]] := by
 rw [layT_mk]
 show [layT I F a].flatten ++ [sg [59]] = _
 simp
theorem lay_emp : layT I F (.mk 12 [] [] 0 0 []) = [sg [59]] := by rw [layT_mk]; rfl
theorem lay_sh (l : List Pt) : layT I F (.mk 1 [] [] 0 0 l) = (l.map (layT I F)).flatten := by rw [layT_mk]; rfl
end
theorem vars_ok (I F : Int → List UInt8) (r : List Ti) : ∀ (l : List Pt) (v : Pt) (acc : List Pt), (∀ q ∈ v :: l, WV q) → Pa (.vars acc) (comL ((v :: l).map (layT I F)) ++ sg [59] :: r) (acc ++ v :: l) (sg [59] :: r)
 | l, v, acc, h => by
  have key : ∃ r', comL ((v :: l).map (layT I F)) ++ sg [59] :: r = layT I F v ++ r' ∧ folE r' ∧ hNo [[61]] r' ∧ Pa (.varE acc v) r' (acc ++ v :: l) (sg [59] :: r) := by
   cases l with
   | nil =>
    refine ⟨sg [59] :: r, rfl, ⟨_, by decide, rfl⟩, rfl, Pa.mk 0 fun f _ => ?_⟩
    rw [pF, may_no rfl]
    rfl
   | cons q l =>
    obtain ⟨f1, h1⟩ := vars_ok I F r l q (acc ++ [v]) fun p hp => h p (List.Mem.tail _ hp)
    refine ⟨sg [44] :: (comL ((q :: l).map (layT I F)) ++ sg [59] :: r), ?_, ⟨_, by decide, rfl⟩, rfl, Pa.mk f1 fun f hf => ?_⟩
    ·simp only [List.map_cons, comL, List.append_assoc, List.cons_append]
    ·rw [pF, may_yes Zf6, h1 f hf, List.append_assoc]
     rfl
  obtain ⟨r', e, hf1, hf2, f1, h1⟩ := key
  rw [e]
  have hv := h v (List.Mem.head _)
  cases hv with
  | v0 ht =>
   refine Pa.mk f1 fun f hf => ?_
   rw [lay_v0, List.cons_append, List.nil_append, pF, tk_yes (nam_t ht), may_no hf2]
   exact h1 f hf
  | v1 ht he =>
   obtain ⟨f2, h2⟩ := (E_ok I F he).2 r' hf1
   refine Pa.mk (max f1 f2) fun f hf => ?_
   rw [lay_v1, List.cons_append, List.cons_append, pF, tk_yes (nam_t ht), may_yes Zf6, bnd_of (h2 f Zf7)]
   exact h1 f Zf7
theorem decl_ok (I F : Int → List UInt8) {ty tx : List UInt8} {l : List Pt} (hl : l ≠ []) (h : ∀ q ∈ l, WV q) (r : List Ti) : Pa (.decl 0 ty tx) (comL (l.map (layT I F)) ++ sg [59] :: r) [.mk 2 ty tx 0 0 l] r := by
 cases l with
 | nil => exact absurd rfl hl
 | cons v l =>
  obtain ⟨f1, h1⟩ := vars_ok I F r l v [] h
  refine Pa.mk f1 fun f hf => ?_
  rw [pF, bnd_of (h1 f hf), tk_yes Zf6]
  rfl
theorem bnd_ok (I : Int → List UInt8) {x : Int} (r : List Ti) : Pa .bnd (bnT I x ++ r) [.mk 20 [] [] x 0 []] r := by
 unfold bnT
 by_cases h : x < 0
 ·rw [if_pos h]
  refine Pa.mk 0 fun f _ => ?_
  show pF (f + 1) .bnd (sg [45] :: ⟨2, I (-x), -x, 0, 0⟩ :: r) = _
  rw [pF, may_yes Zf6, tk_yes rfl]
  show okP [.mk 20 [] [] (- -x) 0 []] r = _
  rw [Int.neg_neg]
  rfl
 ·rw [if_neg h]
  refine Pa.mk 0 fun f _ => ?_
  show pF (f + 1) .bnd (⟨2, I x, x, 0, 0⟩ :: r) = _
  rw [pF, may_no rfl, tk_yes rfl]
  rfl
def begS (l : List Ti) : Prop := hNo [[125]] l ∧ hNo [[101, 108, 115, 101]] l ∧ l ≠ []
theorem begS.app {l : List Ti} (h : begS l) (r : List Ti) : begS (l ++ r) := by
 obtain ⟨h1, h2, h3⟩ := h
 cases l with
 | nil => exact absurd rfl h3
 | cons t l => exact ⟨h1, h2, by simp⟩
theorem typ_begS {ty : List UInt8} (h : isTyp ty = true) (r : List Ti) : begS (wd ty :: r) := by
 refine ⟨?_, ?_, by simp⟩
 ·show isA _ (wd ty) = false
  rw [isA_wd]; exact typ_no h Zf6
 ·show isA _ (wd ty) = false
  rw [isA_wd]; exact typ_no h Zf6
theorem lay_begS (I F : Int → List UInt8) {p : Pt} (h : WS p) : begS (layT I F p) := by
 cases h with
 | blk _ => rw [lay_blk]; exact ⟨rfl, rfl, by simp⟩
 | decl ht hty _ _ =>
  rw [lay_decl]
  rcases ht with rfl | rfl
  ·rw [if_pos rfl]; exact typ_begS hty _
  ·exact ⟨rfl, rfl, by simp⟩
 | if2 _ _ => rw [lay_if2]; exact ⟨rfl, rfl, by simp⟩
 | if3 _ _ _ _ => rw [lay_if3]; exact ⟨rfl, rfl, by simp⟩
 | «for» _ _ _ _ => rw [lay_for]; exact ⟨rfl, rfl, by simp⟩
 | ret0 => rw [lay_ret0]; exact ⟨rfl, rfl, by simp⟩
 | ret1 _ => rw [lay_ret1]; exact ⟨rfl, rfl, by simp⟩
 | disc => rw [lay_disc]; exact ⟨rfl, rfl, by simp⟩
 | exp he =>
  rw [lay_exp]
  have hb := lay_beg I F he
  refine begS.app ⟨hb.no Zf6, hb.no Zf6, ?_⟩ _
  obtain ⟨t, q, e, _⟩ := hb
  rw [e]; simp
 | emp => rw [lay_emp]; exact ⟨rfl, rfl, by simp⟩
theorem stms_ok (I F : Int → List UInt8) (r : List Ti) : ∀ (l acc : List Pt), (∀ q ∈ l, WS q) → (∀ q ∈ l, ∀ r', (opnP q = true → hNo [[101, 108, 115, 101]] r') → Pa .stmt (layT I F q ++ r') [q] r') → Pa (.stms acc) ((l.map (layT I F)).flatten ++ sg [125] :: r) (acc ++ l) r
 | [], acc, _, _ => Pa.mk 0 fun f _ => by
  show pF (f + 1) (.stms acc) (sg [125] :: r) = _
  rw [pF, may_yes Zf6, List.append_nil]
  rfl
 | q :: l, acc, hw, h => by
  obtain ⟨f2, h2⟩ := stms_ok I F r l (acc ++ [q]) (fun p hp => hw p (List.Mem.tail _ hp)) fun p hp => h p (List.Mem.tail _ hp)
  rw [List.map_cons, List.flatten_cons, List.append_assoc]
  obtain ⟨r', hr'⟩ : ∃ r', (l.map (layT I F)).flatten ++ sg [125] :: r = r' := ⟨_, rfl⟩
  have he : hNo [[101, 108, 115, 101]] r' := by
   rw [← hr']
   cases l with
   | nil => rfl
   | cons p l =>
    rw [List.map_cons, List.flatten_cons, List.append_assoc]
    exact ((lay_begS I F (hw p Zgh)).app _).2.1
  rw [hr'] at h2 ⊢
  obtain ⟨f1, h1⟩ := h q (List.Mem.head _) r' fun _ => he
  refine Pa.mk (max f1 f2) fun f hf => ?_
  rw [pF, may_no ((lay_begS I F (hw q (List.Mem.head _))).app _).1, bnd_of (h1 f Zf7)]
  show pF f (.stms (acc ++ [q])) r' = _
  rw [h2 f Zf7, List.append_assoc]
  rfl
theorem blk_ok (I F : Int → List UInt8) (r : List Ti) (l : List Pt) (hw : ∀ q ∈ l, WS q) (h : ∀ q ∈ l, ∀ r', (opnP q = true → hNo [[101, 108, 115, 101]] r') → Pa .stmt (layT I F q ++ r') [q] r') : Pa .blk (layT I F (.mk 6 [] [] 0 0 l) ++ r) [.mk 6 [] [] 0 0 l] r := by
 obtain ⟨f1, h1⟩ := stms_ok I F r l [] hw h
 refine Pa.mk f1 fun f hf => ?_
 rw [lay_blk]
 simp only [List.cons_append, List.append_assoc, List.nil_append]
 rw [pF, tk_yes Zf6, bnd_of (h1 f hf)]
 rfl
theorem lay_two (I F : Int → List UInt8) {p : Pt} (h : WE p) (r : List Ti) : ¬(typedT ((layT I F p ++ r).headD ti0) = true ∧ ¬isA [[40]] (((layT I F p ++ r).drop 1).headD ti0) = true) := by
 have sid : ∀ {p : Pt}, WE p → (∀ r, ¬(typedT ((layT I F p ++ r).headD ti0) = true ∧ ¬isA [[40]] (((layT I F p ++ r).drop 1).headD ti0) = true)) → ∀ r, ¬(typedT ((sidT I F p ++ r).headD ti0) = true ∧ ¬isA [[40]] (((sidT I F p ++ r).drop 1).headD ti0) = true) := fun {p} hp h r => by
  cases ho : opK p.kd with
  | true => rw [sid_op I F ho]; exact fun e => by cases e.1
  | false => rw [sid_no I F ho]; exact h r
 induction h generalizing r with
 | asg _ _ ha _ iha _ => rw [lay_asg, List.append_assoc]; exact sid ha iha _
 | cond ha _ _ iha _ _ => rw [lay_cond, List.append_assoc]; exact sid ha iha _
 | bin _ _ ha _ iha _ => rw [lay_bin, List.append_assoc]; exact sid ha iha _
 | un ht _ _ => rw [lay_un]; exact fun e => by cases e.1
 | call ht _ _ => rw [lay_call]; exact fun e => e.2 rfl
 | fld _ ha iha => rw [lay_fld, List.append_assoc]; exact sid ha iha _
 | @nam tx ht =>
  rw [lay_nam]
  intro e
  have h1 : typedT (wd tx) = true := e.1
  have h2 := (nam_word ht).2
  unfold typedT wd at h1
  unfold isRes at h2
  simp at h1 h2
  rw [h1] at h2
  cases h2.2
 | int _ _ => rw [lay_int]; exact fun e => by cases e.1
 | flt _ => rw [lay_flt]; exact fun e => by cases e.1
 | @boo tx ht =>
  rw [lay_boo]
  simp only [List.mem_cons, List.not_mem_nil, or_false] at ht
  rcases ht with rfl | rfl <;> exact fun e => absurd e.1 (by simp; decide)
theorem S_ok (I F : Int → List UInt8) {p : Pt} (h : WS p) : ∀ r, (opnP p = true → hNo [[101, 108, 115, 101]] r) → Pa .stmt (layT I F p ++ r) [p] r := by
 induction h with
 | @blk l hw ih =>
  intro r _
  obtain ⟨f1, h1⟩ := blk_ok I F r l hw ih
  refine Pa.mk f1 fun f hf => ?_
  have h1 := h1 f hf
  rw [lay_blk] at h1 ⊢
  rw [List.cons_append] at h1 ⊢
  rw [pF, may_yes Zf6]
  exact h1
 | @decl ty tx l ht hty hl hv =>
  intro r _
  obtain ⟨f1, h1⟩ := decl_ok I F (ty := ty) (tx := tx) hl hv r
  refine Pa.mk f1 fun f hf => ?_
  rw [lay_decl]
  have n : ∀ (s : List (List UInt8)) (q : List Ti), s.all (fun u => !isTyp u) = true → hNo s (wd ty :: q) := fun s q hs => by
   show isA _ (wd ty) = false
   rw [isA_wd]; exact typ_no hty hs
  rcases ht with rfl | rfl
  ·rw [if_pos rfl]
   simp only [List.nil_append, List.cons_append, List.append_assoc]
   rw [pF, may_no (n _ _ Zf6), may_no (n _ _ Zf6), may_no (n _ _ Zf6), may_no (n _ _ Zf6), may_no (n _ _ Zf6), may_no (n _ _ Zf6), may_no (n _ _ Zf6), if_pos]
   ·exact h1 f hf
   ·refine ⟨typ_t hty, ?_⟩
    cases l with
    | nil => exact absurd rfl hl
    | cons v l =>
     have hnm : ∃ w q, comL ((v :: l).map (layT I F)) ++ sg [59] :: r = wd w :: q ∧ namB w = true := by
      have : ∃ w q, layT I F v = wd w :: q ∧ namB w = true := by
       cases hv v (List.Mem.head _) with
       | v0 ht => exact ⟨_, _, lay_v0 I F _, ht⟩
       | v1 ht _ => exact ⟨_, _, lay_v1 I F _ _, ht⟩
      obtain ⟨w, q, e, hw⟩ := this
      cases l with
      | nil => exact ⟨w, q ++ sg [59] :: r, by simp [comL, e], hw⟩
      | cons v2 l => exact ⟨w, _, by simp only [List.map_cons, comL, e, List.cons_append]; rfl, hw⟩
     obtain ⟨w, q, e, hw⟩ := hnm
     show ¬isA [[40]] ((comL ((v :: l).map (layT I F)) ++ sg [59] :: r).headD ti0) = true
     rw [e]
     show ¬isA _ (wd w) = true
     rw [isA_wd, nam_no hw Zf6]
     decide
  ·rw [if_neg Zgh]
   simp only [List.nil_append, List.cons_append, List.append_assoc]
   rw [pF, may_no rfl, may_no rfl, may_no rfl, may_no rfl, may_no rfl, may_no rfl, may_yes Zf6, tk_yes (typ_t hty)]
   exact h1 f hf
 | @if2 a s ha _ ih =>
  intro r ho
  rw [lay_if2]
  simp only [List.cons_append, List.append_assoc]
  have hr := ho (opn_if2 0 a s)
  obtain ⟨f1, h1⟩ := (E_ok I F ha).2 (sg [41] :: (layT I F s ++ r)) ⟨_, by decide, rfl⟩
  obtain ⟨f2, h2⟩ := ih r fun _ => hr
  refine Pa.mk (max f1 f2) fun f hf => ?_
  rw [pF, may_no rfl, may_yes Zf6, tk_yes Zf6, bnd_of (h1 f Zf7), tk_yes Zf6, bnd_of (h2 f Zf7), may_no hr]
  rfl
 | @if3 a s t ha _ hs _ ih1 ih2 =>
  intro r ho
  rw [lay_if3]
  simp only [List.cons_append, List.append_assoc]
  rw [opn_if3] at ho
  obtain ⟨f1, h1⟩ := (E_ok I F ha).2 (sg [41] :: (layT I F s ++ wd [101, 108, 115, 101] :: (layT I F t ++ r))) ⟨_, by decide, rfl⟩
  obtain ⟨f2, h2⟩ := ih1 (wd [101, 108, 115, 101] :: (layT I F t ++ r)) fun e => by rw [hs] at e; cases e
  obtain ⟨f3, h3⟩ := ih2 r ho
  refine Pa.mk (max f1 (max f2 f3)) fun f hf => ?_
  rw [pF, may_no rfl, may_yes Zf6, tk_yes Zf6, bnd_of (h1 f Zf7), tk_yes Zf6, bnd_of (h2 f Zf7), may_yes Zf6, bnd_of (h3 f Zf7)]
  rfl
 | @«for» tx x y s ht hx hy _ ih =>
  intro r ho
  rw [opn_for] at ho
  rw [lay_for]
  simp only [List.cons_append, List.append_assoc]
  obtain ⟨f3, h3⟩ := ih r ho
  obtain ⟨f2, h2⟩ := bnd_ok I (x := y) (sg [59] :: wd tx :: sg [43, 43] :: sg [41] :: (layT I F s ++ r))
  obtain ⟨f1, h1⟩ := bnd_ok I (x := x) (sg [59] :: wd tx :: sg [60] :: (bnT I y ++ sg [59] :: wd tx :: sg [43, 43] :: sg [41] :: (layT I F s ++ r)))
  refine Pa.mk (max f1 (max f2 f3) + 1) fun f hf => ?_
  rw [pF, may_no rfl, may_no rfl, may_yes Zf6]
  obtain ⟨f, rfl⟩ : ∃ g, f = g + 1 := ⟨f - 1, by omega⟩
  have hsame : (fun u : Ti => namedT u && decide (u.t = (wd tx).t)) (wd tx) = true := by
   show (namedT (wd tx) && decide (tx = tx)) = true
   rw [nam_t ht]
   simp
  rw [pF, tk_yes Zf6, tk_yes Zf6, tk_yes Zf6, tk_yes (nam_t ht), tk_yes Zf6, bnd_of (h1 f Zf7), tk_yes Zf6, tk_yes hsame, tk_yes Zf6, bnd_of (h2 f Zf7), tk_yes Zf6, tk_yes hsame, tk_yes Zf6, tk_yes Zf6, bnd_of (h3 f Zf7)]
  rfl
 | ret0 =>
  intro r _
  refine Pa.mk 0 fun f _ => ?_
  rw [lay_ret0]
  show pF (f + 1) .stmt (wd [114, 101, 116, 117, 114, 110] :: sg [59] :: r) = _
  rw [pF, may_no rfl, may_no rfl, may_no rfl, may_yes Zf6, may_yes Zf6]
  rfl
 | @ret1 a ha =>
  intro r _
  rw [lay_ret1]
  simp only [List.cons_append, List.append_assoc, List.nil_append]
  obtain ⟨f1, h1⟩ := (E_ok I F ha).2 (sg [59] :: r) ⟨_, by decide, rfl⟩
  refine Pa.mk f1 fun f hf => ?_
  have hb := (lay_beg I F ha).app (r := sg [59] :: r)
  rw [pF, may_no rfl, may_no rfl, may_no rfl, may_yes Zf6, may_no (hb.no Zf6), bnd_of (h1 f hf), tk_yes Zf6]
  rfl
 | disc =>
  intro r _
  refine Pa.mk 0 fun f _ => ?_
  rw [lay_disc]
  show pF (f + 1) .stmt (wd [100, 105, 115, 99, 97, 114, 100] :: sg [59] :: r) = _
  rw [pF, may_no rfl, may_no rfl, may_no rfl, may_no rfl, may_yes Zf6, tk_yes Zf6]
  rfl
 | @exp a ha =>
  intro r _
  rw [lay_exp]
  simp only [List.append_assoc, List.cons_append, List.nil_append]
  obtain ⟨f1, h1⟩ := (E_ok I F ha).2 (sg [59] :: r) ⟨_, by decide, rfl⟩
  refine Pa.mk f1 fun f hf => ?_
  have hb := (lay_beg I F ha).app (r := sg [59] :: r)
  rw [pF, may_no (hb.no Zf6), may_no (hb.no Zf6), may_no (hb.no Zf6), may_no (hb.no Zf6), may_no (hb.no Zf6), may_no (hb.no Zf6), may_no (hb.no Zf6), if_neg (lay_two I F ha _), bnd_of (h1 f hf), tk_yes Zf6]
  obtain ⟨t, q, e, ht⟩ := hb
  rw [e]
  show okP [.mk 11 [] [] 0 t.a [a]] r = _
  rw [stE_a ht]
  rfl
 | emp =>
  intro r _
  refine Pa.mk 0 fun f _ => ?_
  rw [lay_emp]
  show pF (f + 1) .stmt (sg [59] :: r) = _
  rw [pF, may_no rfl, may_no rfl, may_no rfl, may_no rfl, may_no rfl, may_yes Zf6]
  rfl
theorem parL_ok (I F : Int → List UInt8) (r : List Ti) : ∀ (l : List Pt) (p : Pt) (acc : List Pt), (∀ q ∈ p :: l, WM q) → Pa (.parL acc) (comL ((p :: l).map (layT I F)) ++ sg [41] :: r) (acc ++ p :: l) r
 | [], p, acc, h => by
  cases h p (List.Mem.head _) with
  | mk hty htx =>
   refine Pa.mk 0 fun f _ => ?_
   rw [List.map_cons, List.map_nil, comL, lay_prm]
   simp only [List.cons_append, List.nil_append]
   rw [pF, tk_yes (typ_t hty), tk_yes (nam_t htx), may_no rfl, tk_yes Zf6]
   rfl
 | q :: l, p, acc, h => by
  obtain ⟨f1, h1⟩ := parL_ok I F r l q (acc ++ [p]) fun q' hq => h q' (List.Mem.tail _ hq)
  obtain ⟨l', hl'⟩ : ∃ l', comL ((q :: l).map (layT I F)) ++ sg [41] :: r = l' := ⟨_, rfl⟩
  have e : comL ((p :: q :: l).map (layT I F)) ++ sg [41] :: r = layT I F p ++ sg [44] :: l' := by
   rw [← hl']
   simp only [List.map_cons, comL, List.append_assoc, List.cons_append]
  rw [hl'] at h1
  rw [e]
  cases h p (List.Mem.head _) with
  | mk hty htx =>
   refine Pa.mk f1 fun f hf => ?_
   rw [lay_prm]
   simp only [List.cons_append, List.nil_append]
   rw [pF, tk_yes (typ_t hty), tk_yes (nam_t htx), may_yes Zf6]
   rw [List.append_assoc] at h1
   exact h1 f hf
theorem pars_ok (I F : Int → List UInt8) (r : List Ti) (l : List Pt) (h : ∀ q ∈ l, WM q) : Pa .pars (comL (l.map (layT I F)) ++ sg [41] :: r) l r := by
 cases l with
 | nil =>
  refine Pa.mk 0 fun f _ => ?_
  show pF (f + 1) .pars (sg [41] :: r) = _
  rw [pF, may_yes Zf6]
  rfl
 | cons p l =>
  obtain ⟨f1, h1⟩ := parL_ok I F r l p [] h
  refine Pa.mk f1 fun f hf => ?_
  have hn : hNo [[41]] (comL ((p :: l).map (layT I F)) ++ sg [41] :: r) := by
   cases h p (List.Mem.head _) with
   | mk hty htx =>
    cases l with
    | nil =>
     rw [List.map_cons, List.map_nil, comL, lay_prm]
     show isA _ (wd _) = false
     rw [isA_wd]; exact typ_no hty Zf6
    | cons q l =>
     rw [List.map_cons, List.map_cons, comL, lay_prm]
     show isA _ (wd _) = false
     rw [isA_wd]; exact typ_no hty Zf6
  rw [pF, may_no hn]
  exact h1 f hf
theorem shadH_ok (I F : Int → List UInt8) : ∀ (l acc : List Pt), (∀ q ∈ l, WT q) → Pa (.shad acc) ((l.map (layT I F)).flatten) (acc ++ l) []
 | [], acc, _ => Pa.mk 0 fun f _ => by
  rw [List.map_nil, List.flatten_nil, pF, if_pos rfl, List.append_nil]
  rfl
 | p :: l, acc, h => by
  obtain ⟨f1, h1⟩ := shadH_ok I F l (acc ++ [p]) fun q hq => h q (List.Mem.tail _ hq)
  rw [List.append_assoc] at h1
  obtain ⟨r, hr⟩ : ∃ r, (l.map (layT I F)).flatten = r := ⟨_, rfl⟩
  rw [List.map_cons, List.flatten_cons]
  rw [hr] at h1 ⊢
  have hp := h p (List.Mem.head _)
  cases hp with
  | @decl ty tx vs ht hty hl hv =>
   rw [lay_decl]
   obtain ⟨f2, h2⟩ := decl_ok I F (ty := ty) (tx := tx) hl hv r
   refine Pa.mk (max f1 f2) fun f hf => ?_
   have hq : (decide ((wd ty).k = 1) && isQua (wd ty).t) = false := by
    have : isQua ty = false := typ_no hty Zf6
    show (true && isQua ty) = false
    rw [this]; rfl
   by_cases h0 : tx = []
   ·subst h0
    rw [if_pos rfl]
    simp only [List.nil_append, List.cons_append, List.append_assoc]
    rw [pF, if_neg Zgh, if_neg Zf3, tk_yes (typ_t hty), if_neg]
    ·rw [bnd_of (show pF f (.decl (wd ty).a (wd ty).t []) _ = _ from h2 f Zf7)]
     exact h1 f Zf7
    ·rintro ⟨_, e⟩
     cases vs with
     | nil => exact absurd rfl hl
     | cons v vs =>
      have : isA [[40]] (((comL ((v :: vs).map (layT I F)) ++ sg [59] :: r).drop 1).headD ti0) = false := by
       have hv0 := hv v (List.Mem.head _)
       cases hv0 with
       | v0 ht =>
        cases vs with
        | nil => rw [List.map_cons, List.map_nil, comL, lay_v0]; rfl
        | cons q vs => rw [List.map_cons, List.map_cons, comL, lay_v0]; rfl
       | v1 ht he =>
        cases vs with
        | nil => rw [List.map_cons, List.map_nil, comL, lay_v1]; rfl
        | cons q vs => rw [List.map_cons, List.map_cons, comL, lay_v1]; rfl
      rw [this] at e
      cases e
   ·have hqt := ht.resolve_left h0
    rw [if_neg h0]
    simp only [List.nil_append, List.cons_append, List.append_assoc]
    rw [pF, if_neg Zgh, if_pos (by show (true && isQua tx) = true; rw [hqt]; rfl)]
    show tkP typedT (wd ty :: _) _ = _
    rw [tk_yes (typ_t hty)]
    show bndP (pF f (.decl 0 ty tx) _) _ = _
    rw [bnd_of (h2 f Zf7)]
    exact h1 f Zf7
  | @func ty tx ps b hty htx hps hb =>
   rw [lay_func]
   simp only [List.cons_append, List.append_assoc]
   obtain ⟨f2, h2⟩ := pars_ok I F (layT I F (.mk 6 [] [] 0 0 b) ++ r) ps hps
   obtain ⟨f3, h3⟩ := blk_ok I F r b hb fun q hq => S_ok I F (hb q hq)
   refine Pa.mk (max f1 (max f2 f3) + 1) fun f hf => ?_
   have hq : (decide ((wd ty).k = 1) && isQua (wd ty).t) = false := by
    have : isQua ty = false := typ_no hty Zf6
    show (true && isQua ty) = false
    rw [this]; rfl
   obtain ⟨f, rfl⟩ : ∃ g, f = g + 1 := ⟨f - 1, by omega⟩
   rw [pF, if_neg Zgh, if_neg Zf3, tk_yes (typ_t hty), if_pos ⟨nam_t htx, rfl⟩]
   have hf2 : pF (f + 1) (.func (wd ty)) (wd tx :: sg [40] :: (comL (ps.map (layT I F)) ++ sg [41] :: (layT I F (.mk 6 [] [] 0 0 b) ++ r))) = some (some [.mk 4 ty tx 0 0 (ps ++ [.mk 6 [] [] 0 0 b])], r) := by
    rw [pF, tk_yes (nam_t htx), tk_yes Zf6, bnd_of (h2 f Zf7), bnd_of (h3 f Zf7)]
    rfl
   rw [bnd_of hf2]
   exact h1 (f + 1) Zf7
theorem H_ok (I F : Int → List UInt8) {l : List Pt} (h : WH (.mk 1 [] [] 0 0 l)) : Pa (.shad []) (layT I F (.mk 1 [] [] 0 0 l)) l [] := by
 cases h with
 | mk h =>
  rw [lay_sh]
  exact shadH_ok I F l [] h
end Go.Proofs.YtbinaeemcidicaaGreatDoor
namespace Go.Proofs.YtbinaeemcidicaaGreatDoor
def tokQ (t : Ti) : Prop := t.a = 0 ∧ (t.k = 1 → wordB t.t = true) ∧ (t.k = 4 → wordB t.t = false) ∧ (t.k = 2 → 0 ≤ t.x ∧ t.x % 65536 = 0 ∧ t.x < 2147483648) ∧ (t.k = 3 → 0 ≤ t.x)
def GT (l : List Ti) : Prop := ∀ t ∈ l, tokQ t
theorem GT.tail {t : Ti} {l : List Ti} (h : GT (t :: l)) : tokQ t ∧ GT l := ⟨h t (List.Mem.head _), fun u hu => h u (List.Mem.tail _ hu)⟩
theorem GT.suf {l l' : List Ti} (h : GT l) (hs : l' <:+ l) : GT l' := fun t ht => h t (hs.subset ht)
theorem named_inv {t : Ti} (h : namedT t = true) (hr : tokQ t) : namB t.t = true := by
 unfold namedT at h
 simp only [Bool.and_eq_true, decide_eq_true_eq] at h
 unfold namB
 rw [hr.2.1 h.1, h.2]
 rfl
theorem typed_inv {t : Ti} (h : typedT t = true) : isTyp t.t = true := by
 unfold typedT at h
 simp only [Bool.and_eq_true] at h
 exact h.2
def preN : Nt → Prop
 | .bin k => k < 6
 | .binL k p => k < 6 ∧ WE p
 | .fld p => WE p
 | .args acc => ∀ p ∈ acc, WE p
 | .stms acc => ∀ p ∈ acc, WS p
 | .vars acc => ∀ p ∈ acc, WV p
 | .varE acc v => (∀ p ∈ acc, WV p) ∧ WV v
 | .func w => w.a = 0 ∧ isTyp w.t = true
 | .parL acc => ∀ p ∈ acc, WM p
 | .shad acc => ∀ p ∈ acc, WT p
 | .decl a _ _ => a = 0
 | _ => True
def postN : Nt → List Pt → List Ti → Prop
 | .expr, ps, _ | .cond, ps, _ | .bin _, ps, _ | .binL _ _, ps, _ | .un, ps, _ | .fld _, ps, _ | .fst, ps, _ => ∃ p, ps = [p] ∧ WE p
 | .list, ps, _ | .args _, ps, _ => ∀ p ∈ ps, WE p
 | .stmt, ps, l' | .loop, ps, l' => ∃ p, ps = [p] ∧ WS p ∧ (opnP p = true → hNo [[101, 108, 115, 101]] l')
 | .blk, ps, _ => ∃ l, ps = [.mk 6 [] [] 0 0 l] ∧ ∀ p ∈ l, WS p
 | .stms _, ps, _ => ∀ p ∈ ps, WS p
 | .decl _ ty tx, ps, _ => ∃ l, ps = [.mk 2 ty tx 0 0 l] ∧ l ≠ [] ∧ ∀ p ∈ l, WV p
 | .vars _, ps, _ | .varE _ _, ps, _ => ps ≠ [] ∧ ∀ p ∈ ps, WV p
 | .func _, ps, _ => ∃ p, ps = [p] ∧ WT p
 | .pars, ps, _ | .parL _, ps, _ => ∀ p ∈ ps, WM p
 | .bnd, ps, _ => ∃ x, ps = [.mk 20 [] [] x 0 []] ∧ WB x
 | .shad _, ps, _ => ∀ p ∈ ps, WT p
theorem snoc_all {P : Pt → Prop} {acc : List Pt} {p : Pt} (h : ∀ q ∈ acc, P q) (hp : P p) : ∀ q ∈ acc ++ [p], P q := fun q hq => by
 rcases List.mem_append.1 hq with hq | hq
 ·exact h q hq
 ·rw [List.mem_singleton] at hq; rw [hq]; exact hp
theorem pF_wf : ∀ (f : Nat) (n : Nt) (l : List Ti) (ps : List Pt) (l' : List Ti), GT l → preN n → pF f n l = some (some ps, l') → postN n ps l'
 | 0, n, l, ps, l', _, _, h => by rw [pF] at h; cases h
 | f + 1, n, l, ps, l', hg, hp, h => by
  have ih := pF_wf f
  have go : ∀ {n l qs l1}, GT l → preN n → pF f n l = some (some qs, l1) → postN n qs l1 ∧ GT l1 := fun hg hp e => ⟨ih _ _ _ _ hg hp e, hg.suf (pF_good f _ _ _ _ e).1⟩
  have binPost : ∀ {k l qs l1}, k < 6 → GT l → pF f (binN k) l = some (some qs, l1) → (∃ p, qs = [p] ∧ WE p) ∧ GT l1 := fun {k l qs l1} hk hg e => by
   unfold binN at e
   split at e
   ·have := go hg (show preN (.bin (k + 1)) by show k + 1 < 6; omega) e
    exact ⟨this.1, this.2⟩
   ·have := go hg (show preN .un from trivial) e
    exact ⟨this.1, this.2⟩
  have stmtKids : ∀ {l qs l1}, GT l → pF f .stmt l = some (some qs, l1) → (∃ p, qs = [p] ∧ WS p ∧ (opnP p = true → hNo [[101, 108, 115, 101]] l1)) ∧ GT l1 := fun hg e => go hg (show preN .stmt from trivial) e
  have exprKid : ∀ {l qs l1}, GT l → pF f .expr l = some (some qs, l1) → (∃ p, qs = [p] ∧ WE p) ∧ GT l1 := fun hg e => go hg (show preN .expr from trivial) e
  cases n with
  | expr =>
   rw [pF] at h
   obtain ⟨qs, l1, h1, h⟩ := bnd_inv h
   obtain ⟨⟨p, rfl, hw⟩, g1⟩ := go hg (show preN .cond from trivial) h1
   split at h
   ·rename_i hk
    rcases may_inv h with ⟨t, l2, rfl, ht, h⟩ | ⟨_, h⟩
    ·obtain ⟨hr, g2⟩ := g1.tail
     obtain ⟨rs, l3, h3, h⟩ := bnd_inv h
     obtain ⟨⟨q, rfl, hq⟩, _⟩ := exprKid g2 h3
     obtain ⟨rfl, rfl⟩ := ok_inv h
     refine ⟨_, rfl, ?_⟩
     rw [hr.1]
     exact .asg (isA_mem ht) hk hw hq
    ·obtain ⟨rfl, rfl⟩ := ok_inv h
     exact ⟨p, rfl, hw⟩
   ·obtain ⟨rfl, rfl⟩ := ok_inv h
    exact ⟨p, rfl, hw⟩
  | cond =>
   rw [pF] at h
   obtain ⟨qs, l1, h1, h⟩ := bnd_inv h
   obtain ⟨⟨p, rfl, hw⟩, g1⟩ := go hg (show preN (.bin 0) by show 0 < 6; omega) h1
   rcases may_inv h with ⟨t, l2, rfl, ht, h⟩ | ⟨_, h⟩
   ·obtain ⟨hr, g2⟩ := g1.tail
    obtain ⟨rs, l3, h3, h⟩ := bnd_inv h
    obtain ⟨⟨q, rfl, hq⟩, g3⟩ := exprKid g2 h3
    obtain ⟨u, l4, rfl, hu, h⟩ := tk_inv h
    obtain ⟨vs, l5, h5, h⟩ := bnd_inv h
    obtain ⟨⟨v, rfl, hv⟩, _⟩ := go g3.tail.2 (show preN .cond from trivial) h5
    obtain ⟨rfl, rfl⟩ := ok_inv h
    refine ⟨_, rfl, ?_⟩
    rw [hr.1]
    exact .cond hw hq hv
   ·obtain ⟨rfl, rfl⟩ := ok_inv h
    exact ⟨p, rfl, hw⟩
  | bin k =>
   rw [pF] at h
   obtain ⟨qs, l1, h1, h⟩ := bnd_inv h
   obtain ⟨⟨p, rfl, hw⟩, g1⟩ := binPost hp hg h1
   exact (go g1 (show preN (.binL k p) from ⟨hp, hw⟩) h).1
  | binL k p =>
   rw [pF] at h
   rcases may_inv h with ⟨t, l2, rfl, ht, h⟩ | ⟨_, h⟩
   ·obtain ⟨hr, g2⟩ := hg.tail
    obtain ⟨rs, l3, h3, h⟩ := bnd_inv h
    obtain ⟨⟨q, rfl, hq⟩, g3⟩ := binPost hp.1 g2 h3
    rw [hr.1] at h
    exact (go g3 (show preN (.binL k (.mk 15 [] t.t 0 0 [p, q])) from ⟨hp.1, .bin hp.1 (isA_mem ht) hp.2 hq⟩) h).1
   ·obtain ⟨rfl, rfl⟩ := ok_inv h
    exact ⟨p, rfl, hp.2⟩
  | un =>
   rw [pF] at h
   rcases may_inv h with ⟨t, l2, rfl, ht, h⟩ | ⟨_, h⟩
   ·obtain ⟨hr, g2⟩ := hg.tail
    obtain ⟨rs, l3, h3, h⟩ := bnd_inv h
    obtain ⟨⟨q, rfl, hq⟩, g3⟩ := go g2 (show preN .un from trivial) h3
    obtain ⟨rfl, rfl⟩ := ok_inv h
    refine ⟨_, rfl, ?_⟩
    rw [hr.1]
    exact .un (isA_mem ht) hq
   ·obtain ⟨rs, l3, h3, h⟩ := bnd_inv h
    obtain ⟨⟨q, rfl, hq⟩, g3⟩ := go hg (show preN .fst from trivial) h3
    exact (go g3 (show preN (.fld q) from hq) h).1
  | fld p =>
   rw [pF] at h
   rcases may_inv h with ⟨t, l2, rfl, ht, h⟩ | ⟨_, h⟩
   ·obtain ⟨hr, g2⟩ := hg.tail
    obtain ⟨u, l3, rfl, hu, h⟩ := tk_inv h
    obtain ⟨hr2, g3⟩ := g2.tail
    rw [hr2.1] at h
    exact (go g3 (show preN (.fld (.mk 18 [] u.t 0 0 [p])) from .fld (named_inv hu hr2) hp) h).1
   ·obtain ⟨rfl, rfl⟩ := ok_inv h
    exact ⟨p, rfl, hp⟩
  | fst =>
   rw [pF] at h
   obtain ⟨t, l1, rfl, ht, h⟩ := tk_inv h
   obtain ⟨hr, g1⟩ := hg.tail
   split at h
   ·rename_i hk
    obtain ⟨rfl, rfl⟩ := ok_inv h
    refine ⟨_, rfl, ?_⟩
    rw [hr.1]
    rcases hk with hk | hk
    ·rw [hk]; exact .int (hr.2.2.2.1 hk).1 (hr.2.2.2.1 hk).2.1
    ·rw [hk]; exact .flt (hr.2.2.2.2 hk)
   ·rename_i hk
    split at h
    ·obtain ⟨rs, l3, h3, h⟩ := bnd_inv h
     obtain ⟨⟨q, rfl, hq⟩, g3⟩ := exprKid g1 h3
     obtain ⟨u, l4, rfl, hu, h⟩ := tk_inv h
     obtain ⟨rfl, rfl⟩ := ok_inv h
     exact ⟨q, rfl, hq⟩
    ·rename_i hpar
     split at h
     ·rename_i hb
      obtain ⟨rfl, rfl⟩ := ok_inv h
      refine ⟨_, rfl, ?_⟩
      rw [hr.1]
      exact .boo (isA_mem hb)
     ·rename_i hb
      split at h
      ·rename_i hn
       obtain ⟨rfl, rfl⟩ := ok_inv h
       refine ⟨_, rfl, ?_⟩
       rw [hr.1]
       exact .nam (named_inv hn.1 hr)
      ·have hnt : namB t.t = true ∨ isTyp t.t = true := by
        unfold fstT at ht
        simp only [Bool.or_eq_true, decide_eq_true_eq] at ht
        rcases ht with (((ht | ht) | ht) | ht) | ht
        ·exact absurd (.inl ht) hk
        ·exact absurd (.inr ht) hk
        ·exact .inr (typed_inv ht)
        ·exact .inl (named_inv ht hr)
        ·exfalso
         have hm := isA_mem ht
         unfold isA at hpar hb ht
         simp only [Bool.and_eq_true] at ht hpar hb
         simp only [List.mem_cons, List.not_mem_nil, or_false] at hm
         rcases hm with hm | hm | hm
         ·exact hb ⟨ht.1, by rw [hm]; decide⟩
         ·exact hb ⟨ht.1, by rw [hm]; decide⟩
         ·exact hpar ⟨ht.1, by rw [hm]; decide⟩
       obtain ⟨u, l4, rfl, hu, h⟩ := tk_inv h
       obtain ⟨rs, l3, h3, h⟩ := bnd_inv h
       obtain ⟨hq, g3⟩ := go g1.tail.2 (show preN .list from trivial) h3
       obtain ⟨rfl, rfl⟩ := ok_inv h
       refine ⟨_, rfl, ?_⟩
       rw [hr.1]
       exact .call hnt hq
  | list =>
   rw [pF] at h
   rcases may_inv h with ⟨t, l2, rfl, ht, h⟩ | ⟨_, h⟩
   ·obtain ⟨rfl, rfl⟩ := ok_inv h
    exact fun p hp => by cases hp
   ·exact (go hg (show preN (.args []) from fun p hp => by cases hp) h).1
  | args acc =>
   rw [pF] at h
   obtain ⟨rs, l3, h3, h⟩ := bnd_inv h
   obtain ⟨⟨q, rfl, hq⟩, g3⟩ := exprKid hg h3
   rcases may_inv h with ⟨t, l2, rfl, ht, h⟩ | ⟨_, h⟩
   ·exact (go g3.tail.2 (show preN (.args (acc ++ [q])) from snoc_all hp hq) h).1
   ·obtain ⟨u, l4, rfl, hu, h⟩ := tk_inv h
    obtain ⟨rfl, rfl⟩ := ok_inv h
    exact snoc_all hp hq
  | stmt =>
   rw [pF] at h
   rcases may_inv h with ⟨t, l1, rfl, ht, h⟩ | ⟨_, h⟩
   ·obtain ⟨l2, rfl, hl⟩ := (go hg (show preN .blk from trivial) h).1
    exact ⟨_, rfl, .blk hl, fun e => by rw [opnP, if_neg (fun e => absurd e.1 Zf6), if_neg Zf6] at e; cases e⟩
   rcases may_inv h with ⟨t, l1, rfl, ht, h⟩ | ⟨_, h⟩
   ·obtain ⟨hr, g1⟩ := hg.tail
    obtain ⟨u, l2, rfl, _, h⟩ := tk_inv h
    obtain ⟨rs, l3, h3, h⟩ := bnd_inv h
    obtain ⟨⟨q, rfl, hq⟩, g3⟩ := exprKid g1.tail.2 h3
    obtain ⟨u2, l4, rfl, _, h⟩ := tk_inv h
    obtain ⟨ss, l5, h5, h⟩ := bnd_inv h
    obtain ⟨⟨s, rfl, hs, ho⟩, g5⟩ := stmtKids g3.tail.2 h5
    rcases may_inv h with ⟨u3, l6, rfl, hu3, h⟩ | ⟨hn, h⟩
    ·obtain ⟨ts, l7, h7, h⟩ := bnd_inv h
     obtain ⟨⟨v, rfl, hv, ho2⟩, g7⟩ := stmtKids g5.tail.2 h7
     obtain ⟨rfl, rfl⟩ := ok_inv h
     refine ⟨_, rfl, ?_, fun e => ?_⟩
     ·rw [hr.1]
      refine .if3 hq hs ?_ hv
      show opnP s = false
      cases hb : opnP s with
      | false => rfl
      | true =>
       have := ho hb
       rw [show hNo [[101, 108, 115, 101]] (u3 :: l6) ↔ isA [[101, 108, 115, 101]] u3 = false from Iff.rfl, hu3] at this
       cases this
     ·rw [hr.1, show hdP [q] = q from rfl, show hdP [s] = s from rfl, show hdP [v] = v from rfl, opn_if3] at e
      exact ho2 e
    ·obtain ⟨rfl, rfl⟩ := ok_inv h
     refine ⟨_, rfl, ?_, fun _ => hn⟩
     rw [hr.1]
     exact .if2 hq hs
   rcases may_inv h with ⟨t, l1, rfl, ht, h⟩ | ⟨_, h⟩
   ·exact (go hg (show preN .loop from trivial) h).1
   rcases may_inv h with ⟨t, l1, rfl, ht, h⟩ | ⟨_, h⟩
   ·obtain ⟨hr, g1⟩ := hg.tail
    rcases may_inv h with ⟨u, l2, rfl, _, h⟩ | ⟨_, h⟩
    ·obtain ⟨rfl, rfl⟩ := ok_inv h
     refine ⟨_, rfl, ?_, fun e => ?_⟩
     ·rw [hr.1]; exact .ret0
     ·rw [opnP, if_neg (fun e => absurd e.1 Zf6), if_neg Zf6] at e; cases e
    ·obtain ⟨rs, l3, h3, h⟩ := bnd_inv h
     obtain ⟨⟨q, rfl, hq⟩, g3⟩ := exprKid g1 h3
     obtain ⟨u2, l4, rfl, _, h⟩ := tk_inv h
     obtain ⟨rfl, rfl⟩ := ok_inv h
     refine ⟨_, rfl, ?_, fun e => ?_⟩
     ·rw [hr.1]; exact .ret1 hq
     ·rw [opnP, if_neg (fun e => absurd e.1 Zf6), if_neg Zf6] at e; cases e
   rcases may_inv h with ⟨t, l1, rfl, ht, h⟩ | ⟨_, h⟩
   ·obtain ⟨hr, g1⟩ := hg.tail
    obtain ⟨u2, l4, rfl, _, h⟩ := tk_inv h
    obtain ⟨rfl, rfl⟩ := ok_inv h
    refine ⟨_, rfl, ?_, fun e => ?_⟩
    ·rw [hr.1]; exact .disc
    ·rw [opnP, if_neg (fun e => absurd e.1 Zf6), if_neg Zf6] at e; cases e
   rcases may_inv h with ⟨t, l1, rfl, ht, h⟩ | ⟨_, h⟩
   ·obtain ⟨hr, g1⟩ := hg.tail
    obtain ⟨rfl, rfl⟩ := ok_inv h
    refine ⟨_, rfl, ?_, fun e => ?_⟩
    ·rw [hr.1]; exact .emp
    ·rw [opnP, if_neg (fun e => absurd e.1 Zf6), if_neg Zf6] at e; cases e
   rcases may_inv h with ⟨t, l1, rfl, ht, h⟩ | ⟨_, h⟩
   ·obtain ⟨hr, g1⟩ := hg.tail
    obtain ⟨u2, l4, rfl, hu, h⟩ := tk_inv h
    have htx : t.t = [99, 111, 110, 115, 116] := by simpa using isA_mem ht
    obtain ⟨vs, rfl, hl, hv⟩ := (go g1.tail.2 (show preN (.decl t.a u2.t t.t) from hr.1) h).1
    refine ⟨_, rfl, .decl (.inr htx) (typed_inv hu) hl hv, fun e => ?_⟩
    rw [opnP, if_neg (fun e => absurd e.1 Zf6), if_neg Zf6] at e
    cases e
   split at h
   ·rename_i hty
    have hne : l ≠ [] := by rintro rfl; exact absurd hty.1 Zf6
    obtain ⟨t, l1, rfl⟩ := List.exists_cons_of_ne_nil hne
    obtain ⟨hr, g1⟩ := hg.tail
    obtain ⟨vs, rfl, hl, hv⟩ := (go (n := .decl t.a t.t []) g1 (show preN (.decl t.a t.t []) from hr.1) h).1
    refine ⟨_, rfl, .decl (.inl rfl) (typed_inv hty.1) hl hv, fun e => ?_⟩
    rw [opnP, if_neg (fun e => absurd e.1 Zf6), if_neg Zf6] at e
    cases e
   ·obtain ⟨rs, l3, h3, h⟩ := bnd_inv h
    have ha : (l.headD ti0).a = 0 := by
     cases l with
     | nil => rfl
     | cons t l => exact hg.tail.1.1
    obtain ⟨⟨q, rfl, hq⟩, g3⟩ := exprKid hg h3
    obtain ⟨u2, l4, rfl, _, h⟩ := tk_inv h
    obtain ⟨rfl, rfl⟩ := ok_inv h
    refine ⟨_, rfl, ?_, fun e => ?_⟩
    ·rw [ha]; exact .exp hq
    ·rw [opnP, if_neg (fun e => absurd e.1 Zf6), if_neg Zf6] at e; cases e
  | blk =>
   rw [pF] at h
   obtain ⟨t, l1, rfl, ht, h⟩ := tk_inv h
   obtain ⟨hr, g1⟩ := hg.tail
   obtain ⟨rs, l3, h3, h⟩ := bnd_inv h
   obtain ⟨hq, g3⟩ := go g1 (show preN (.stms []) from fun p hp => by cases hp) h3
   obtain ⟨rfl, rfl⟩ := ok_inv h
   exact ⟨rs, by rw [hr.1], hq⟩
  | stms acc =>
   rw [pF] at h
   rcases may_inv h with ⟨t, l2, rfl, ht, h⟩ | ⟨_, h⟩
   ·obtain ⟨rfl, rfl⟩ := ok_inv h
    exact hp
   ·obtain ⟨rs, l3, h3, h⟩ := bnd_inv h
    obtain ⟨⟨q, rfl, hq, _⟩, g3⟩ := stmtKids hg h3
    exact (go g3 (show preN (.stms (acc ++ [q])) from snoc_all hp hq) h).1
  | decl a ty tx =>
   rw [pF] at h
   obtain ⟨rs, l3, h3, h⟩ := bnd_inv h
   obtain ⟨hq, g3⟩ := go hg (show preN (.vars []) from fun p hp => by cases hp) h3
   obtain ⟨u2, l4, rfl, _, h⟩ := tk_inv h
   obtain ⟨rfl, rfl⟩ := ok_inv h
   exact ⟨rs, by rw [show a = 0 from hp], hq.1, hq.2⟩
  | vars acc =>
   rw [pF] at h
   obtain ⟨t, l1, rfl, ht, h⟩ := tk_inv h
   obtain ⟨hr, g1⟩ := hg.tail
   rw [hr.1] at h
   rcases may_inv h with ⟨t2, l2, rfl, _, h⟩ | ⟨_, h⟩
   ·obtain ⟨rs, l3, h3, h⟩ := bnd_inv h
    obtain ⟨⟨q, rfl, hq⟩, g3⟩ := exprKid g1.tail.2 h3
    exact (go g3 (show preN (.varE acc (.mk 3 [] t.t 0 0 [q])) from ⟨hp, .v1 (named_inv ht hr) hq⟩) h).1
   ·exact (go g1 (show preN (.varE acc (.mk 3 [] t.t 0 0 [])) from ⟨hp, .v0 (named_inv ht hr)⟩) h).1
  | varE acc v =>
   rw [pF] at h
   rcases may_inv h with ⟨t2, l2, rfl, _, h⟩ | ⟨_, h⟩
   ·exact (go hg.tail.2 (show preN (.vars (acc ++ [v])) from snoc_all hp.1 hp.2) h).1
   ·obtain ⟨rfl, rfl⟩ := ok_inv h
    exact ⟨by simp, snoc_all hp.1 hp.2⟩
  | func w =>
   rw [pF] at h
   obtain ⟨t, l1, rfl, ht, h⟩ := tk_inv h
   obtain ⟨hr, g1⟩ := hg.tail
   obtain ⟨t2, l2, rfl, _, h⟩ := tk_inv h
   obtain ⟨rs, l3, h3, h⟩ := bnd_inv h
   obtain ⟨hps, g3⟩ := go g1.tail.2 (show preN .pars from trivial) h3
   obtain ⟨bs, l4, h4, h⟩ := bnd_inv h
   obtain ⟨b, rfl, hb⟩ := (go g3 (show preN .blk from trivial) h4).1
   obtain ⟨rfl, rfl⟩ := ok_inv h
   refine ⟨_, rfl, ?_⟩
   rw [hp.1]
   exact .func hp.2 (named_inv ht hr) hps hb
  | pars =>
   rw [pF] at h
   rcases may_inv h with ⟨t, l2, rfl, ht, h⟩ | ⟨_, h⟩
   ·obtain ⟨rfl, rfl⟩ := ok_inv h
    exact fun p hp => by cases hp
   ·exact (go hg (show preN (.parL []) from fun p hp => by cases hp) h).1
  | parL acc =>
   rw [pF] at h
   obtain ⟨t, l1, rfl, ht, h⟩ := tk_inv h
   obtain ⟨t2, l2, rfl, ht2, h⟩ := tk_inv h
   obtain ⟨hr, g2⟩ := hg.tail.2.tail
   rw [hr.1] at h
   have hm : WM (.mk 5 t.t t2.t 0 0 []) := .mk (typed_inv ht) (named_inv ht2 hr)
   rcases may_inv h with ⟨t3, l3, rfl, _, h⟩ | ⟨_, h⟩
   ·exact (go g2.tail.2 (show preN (.parL (acc ++ [.mk 5 t.t t2.t 0 0 []])) from snoc_all hp hm) h).1
   ·obtain ⟨u, l4, rfl, hu, h⟩ := tk_inv h
    obtain ⟨rfl, rfl⟩ := ok_inv h
    exact snoc_all hp hm
  | loop =>
   rw [pF] at h
   obtain ⟨t, l1, rfl, ht, h⟩ := tk_inv h
   obtain ⟨hr, g⟩ := hg.tail
   obtain ⟨_, l1, rfl, _, h⟩ := tk_inv h
   replace g := g.tail.2
   obtain ⟨_, l1, rfl, _, h⟩ := tk_inv h
   replace g := g.tail.2
   obtain ⟨nm, l1, rfl, hn, h⟩ := tk_inv h
   obtain ⟨hrn, g⟩ := g.tail
   obtain ⟨_, l1, rfl, _, h⟩ := tk_inv h
   replace g := g.tail.2
   obtain ⟨rs, l3, h3, h⟩ := bnd_inv h
   obtain ⟨⟨x, rfl, hx⟩, g⟩ := go g (show preN .bnd from trivial) h3
   obtain ⟨_, l1, rfl, _, h⟩ := tk_inv h
   replace g := g.tail.2
   obtain ⟨_, l1, rfl, _, h⟩ := tk_inv h
   replace g := g.tail.2
   obtain ⟨_, l1, rfl, _, h⟩ := tk_inv h
   replace g := g.tail.2
   obtain ⟨rs, l3, h3, h⟩ := bnd_inv h
   obtain ⟨⟨y, rfl, hy⟩, g⟩ := go g (show preN .bnd from trivial) h3
   obtain ⟨_, l1, rfl, _, h⟩ := tk_inv h
   replace g := g.tail.2
   obtain ⟨_, l1, rfl, _, h⟩ := tk_inv h
   replace g := g.tail.2
   obtain ⟨_, l1, rfl, _, h⟩ := tk_inv h
   replace g := g.tail.2
   obtain ⟨_, l1, rfl, _, h⟩ := tk_inv h
   replace g := g.tail.2
   obtain ⟨rs, l3, h3, h⟩ := bnd_inv h
   obtain ⟨⟨s, rfl, hs, ho⟩, g⟩ := stmtKids g h3
   obtain ⟨rfl, rfl⟩ := ok_inv h
   refine ⟨_, rfl, ?_, fun e => ?_⟩
   ·rw [hr.1]; exact .for (named_inv hn hrn) hx hy hs
   ·rw [show hdP [s] = s from rfl, opn_for] at e
    exact ho e
  | bnd =>
   rw [pF] at h
   rcases may_inv h with ⟨t, l2, rfl, ht, h⟩ | ⟨_, h⟩
   ·obtain ⟨hr, g1⟩ := hg.tail
    obtain ⟨u, l1, rfl, hu, h⟩ := tk_inv h
    obtain ⟨hr2, _⟩ := g1.tail
    have hk : u.k = 2 := by simpa [wholeT] using hu
    obtain ⟨x1, x2, x3⟩ := hr2.2.2.2.1 hk
    obtain ⟨rfl, rfl⟩ := ok_inv h
    exact ⟨-u.x, by rw [hr.1], .mk Zf7 Zf7⟩
   ·obtain ⟨u, l1, rfl, hu, h⟩ := tk_inv h
    obtain ⟨hr2, _⟩ := hg.tail
    have hk : u.k = 2 := by simpa [wholeT] using hu
    obtain ⟨x1, x2, x3⟩ := hr2.2.2.2.1 hk
    obtain ⟨rfl, rfl⟩ := ok_inv h
    exact ⟨u.x, by rw [hr2.1], .mk Zf7 Zf7⟩
  | shad acc =>
   rw [pF] at h
   split at h
   ·obtain ⟨rfl, rfl⟩ := ok_inv h
    exact hp
   ·rename_i hne
    obtain ⟨t, l1, rfl⟩ := List.exists_cons_of_ne_nil hne
    obtain ⟨hr, g1⟩ := hg.tail
    split at h
    ·rename_i hq
     have hq2 : isQua t.t = true := by
      have : (decide (t.k = 1) && isQua t.t) = true := hq
      simp only [Bool.and_eq_true] at this
      exact this.2
     obtain ⟨u, l2, e2, hu, h⟩ := tk_inv h
     have e2 : l1 = u :: l2 := e2
     subst e2
     obtain ⟨rs, l3, h3, h⟩ := bnd_inv h
     obtain ⟨⟨vs, rfl, hl, hv⟩, g3⟩ := go g1.tail.2 (show preN (.decl t.a u.t t.t) from hr.1) h3
     exact (go g3 (show preN (.shad (acc ++ [.mk 2 u.t t.t 0 0 vs])) from snoc_all hp (.decl (.inr hq2) (typed_inv hu) hl hv)) h).1
    ·obtain ⟨u, l2, e2, hu, h⟩ := tk_inv h
     cases e2
     split at h
     ·obtain ⟨rs, l3, h3, h⟩ := bnd_inv h
      obtain ⟨⟨p, rfl, hq⟩, g3⟩ := go g1 (show preN (.func t) from ⟨hr.1, typed_inv hu⟩) h3
      exact (go g3 (show preN (.shad (acc ++ [p])) from snoc_all hp hq) h).1
     ·obtain ⟨rs, l3, h3, h⟩ := bnd_inv h
      obtain ⟨⟨vs, rfl, hl, hv⟩, g3⟩ := go g1 (show preN (.decl t.a t.t []) from hr.1) h3
      exact (go g3 (show preN (.shad (acc ++ [.mk 2 t.t [] 0 0 vs])) from snoc_all hp (.decl (.inl rfl) (typed_inv hu) hl hv)) h).1
end Go.Proofs.YtbinaeemcidicaaGreatDoor
