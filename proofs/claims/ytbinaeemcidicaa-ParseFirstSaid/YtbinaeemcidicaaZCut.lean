/- Beginnings of shaders, and what stands behind a wrong token: in plain Lean. No condition. -/
import Derived.Test.YtbinaeemcidicaaZPN
import Derived.Test.YtbinaeemcidicaaZInv
namespace Go.Proofs.Ytbinaeemcidicaa
theorem pF_up {f g : Nat} (hfg : f ≤ g) {n : Nt} {l : List Ti} {x} (h : pF f n l = some x) : pF g n l = some x := by
  induction hfg with
  | refl => exact h
  | step _ ih => exact pF_succ _ _ _ _ ih
theorem pF_det {f g : Nat} {n : Nt} {l : List Ti} {x y} (h : pF f n l = some x) (h' : pF g n l = some y) : x = y := by
  have h1 := pF_up (Nat.le_max_left f g) h
  have h2 := pF_up (Nat.le_max_right f g) h'
  rw [h1] at h2
  exact Option.some.inj h2
theorem head_app {l ext : List Ti} (h : l ≠ []) : (l ++ ext).headD ti0 = l.headD ti0 := by
  cases l with
  | nil => exact absurd rfl h
  | cons t l => rfl
/-- is read the same, whatever stands behind -/
def Closed (n : Nt) (l : List Ti) (ps : List Pt) (r : List Ti) : Prop := ∀ ext, ∃ f0, ∀ g, f0 ≤ g → pF g n (l ++ ext) = some (some ps, r ++ ext)
theorem split_suf {l : List Ti} {t : Ti} {rest : List Ti} (h : t :: rest <:+ l) : ∃ pre, l = pre ++ t :: rest := by
  obtain ⟨pre, h⟩ := h
  exact ⟨pre, h.symm⟩
theorem cl_stms : ∀ (f : Nat) (acc : List Pt) (l : List Ti) (ps : List Pt) (r : List Ti), pF f (.stms acc) l = some (some ps, r) → Closed (.stms acc) l ps r
  | 0, _, _, _, _, h => by rw [pF] at h; cases h
  | f + 1, acc, l, ps, r, h => by
    rw [pF] at h
    rcases may_inv h with ⟨t, l1, rfl, hp, hk⟩ | ⟨hn, he⟩
    · cases hk
      refine fun ext => ⟨1, fun g hg => ?_⟩
      cases g with
      | zero => omega
      | succ g =>
        rw [pF, List.cons_append, may_yes hp]
        rfl
    · obtain ⟨qs, l2, h1, h2⟩ := bnd_inv he
      have hl2 : r.length + 1 ≤ l2.length := (pF_good f (.stms _) l2 _ _ h2).2 rfl
      cases l2 with
      | nil => simp at hl2
      | cons t rest =>
        obtain ⟨pre, rfl⟩ := split_suf ((pF_loc f .stmt).1 _ _ _ h1)
        intro ext
        obtain ⟨f1, hf1⟩ := (pF_loc f .stmt).2 pre t rest (rest ++ ext) _ h1
        obtain ⟨f2, hf2⟩ := cl_stms f _ _ _ _ h2 ext
        refine ⟨max f1 f2 + 1, fun g hg => ?_⟩
        cases g with
        | zero => omega
        | succ g =>
          have hn' : hNo [[125]] ((pre ++ t :: rest) ++ ext) := by
            show isA _ _ = false
            rw [head_app (by simp)]
            exact hn
          rw [pF, may_no hn', List.append_assoc, List.cons_append, bnd_of (hf1 g (by omega))]
          exact hf2 g (by omega)
theorem cl_blk {f : Nat} {l : List Ti} {ps : List Pt} {r : List Ti} (h : pF f .blk l = some (some ps, r)) : Closed .blk l ps r := by
  cases f with
  | zero => rw [pF] at h; cases h
  | succ f =>
    rw [pF] at h
    obtain ⟨t, l1, rfl, hp, h⟩ := tk_inv h
    obtain ⟨qs, l2, h1, h2⟩ := bnd_inv h
    cases h2
    intro ext
    obtain ⟨f1, hf1⟩ := cl_stms f _ _ _ _ h1 ext
    refine ⟨f1 + 1, fun g hg => ?_⟩
    cases g with
    | zero => omega
    | succ g =>
      rw [pF, List.cons_append, tk_yes hp, bnd_of (hf1 g (by omega))]
      rfl
theorem cl_decl {f : Nat} {a : Int} {ty tx : List UInt8} {l : List Ti} {ps : List Pt} {r : List Ti} (h : pF f (.decl a ty tx) l = some (some ps, r)) : Closed (.decl a ty tx) l ps r ∧ r.length + 2 ≤ l.length := by
  cases f with
  | zero => rw [pF] at h; cases h
  | succ f =>
    rw [pF] at h
    obtain ⟨qs, l2, h1, h2⟩ := bnd_inv h
    obtain ⟨t, rest, rfl, hp, h2⟩ := tk_inv h2
    cases h2
    have hg : (t :: r).length + 1 ≤ l.length := (pF_good f (.vars []) l _ _ h1).2 rfl
    refine ⟨fun ext => ?_, by simpa using hg⟩
    obtain ⟨pre, rfl⟩ := split_suf ((pF_loc f (.vars [])).1 _ _ _ h1)
    obtain ⟨f1, hf1⟩ := (pF_loc f (.vars [])).2 pre t r (r ++ ext) _ h1
    refine ⟨f1 + 1, fun g hg => ?_⟩
    cases g with
    | zero => omega
    | succ g =>
      rw [pF, List.append_assoc, List.cons_append, bnd_of (hf1 g (by omega)), tk_yes hp]
      rfl
theorem cl_func {f : Nat} {w : Ti} {l : List Ti} {ps : List Pt} {r : List Ti} (h : pF f (.func w) l = some (some ps, r)) : Closed (.func w) l ps r ∧ r.length + 2 ≤ l.length := by
  cases f with
  | zero => rw [pF] at h; cases h
  | succ f =>
    rw [pF] at h
    obtain ⟨t, l1, rfl, hp, h⟩ := tk_inv h
    obtain ⟨t2, l2, rfl, hp2, h⟩ := tk_inv h
    obtain ⟨qs, l3, h1, h⟩ := bnd_inv h
    obtain ⟨bs, l4, h2, h⟩ := bnd_inv h
    cases h
    have hg3 := (pF_good f .pars l2 _ _ h1).1.length_le
    have hg : r.length + 1 ≤ l3.length := (pF_good f .blk l3 _ _ h2).2 rfl
    refine ⟨fun ext => ?_, by simp only [List.length_cons]; omega⟩
    cases l3 with
    | nil => simp at hg
    | cons u rest =>
      obtain ⟨pre, rfl⟩ := split_suf ((pF_loc f .pars).1 _ _ _ h1)
      obtain ⟨f1, hf1⟩ := (pF_loc f .pars).2 pre u rest (rest ++ ext) _ h1
      obtain ⟨f2, hf2⟩ := cl_blk h2 ext
      refine ⟨max f1 f2 + 1, fun g hg => ?_⟩
      cases g with
      | zero => omega
      | succ g =>
        rw [pF, List.cons_append, tk_yes hp, List.cons_append, tk_yes hp2, List.append_assoc, List.cons_append, bnd_of (hf1 g (by omega)), ← List.cons_append, bnd_of (hf2 g (by omega))]
        rfl
/-- what stands behind a shader is read on -/
theorem shad_on : ∀ (f : Nat) (acc : List Pt) (l : List Ti) (ps : List Pt) (r : List Ti), pF f (.shad acc) l = some (some ps, r) → r = [] ∧ ∀ (ext : List Ti) (g : Nat) x, pF g (.shad ps) ext = some x → ∃ g', pF g' (.shad acc) (l ++ ext) = some x
  | 0, _, _, _, _, h => by rw [pF] at h; cases h
  | f + 1, acc, l, ps, r, h => by
    rw [pF] at h
    by_cases hl : l = []
    · subst hl
      rw [if_pos rfl] at h
      cases h
      exact ⟨rfl, fun ext g x hx => ⟨g, hx⟩⟩
    rw [if_neg hl] at h
    obtain ⟨t, l1, rfl⟩ : ∃ t l1, l = t :: l1 := by
      cases l with
      | nil => exact absurd rfl hl
      | cons t l => exact ⟨t, l, rfl⟩
    by_cases hq : (decide (((t :: l1).headD ti0).k = 1) && isQua ((t :: l1).headD ti0).t) = true
    · rw [if_pos hq] at h
      obtain ⟨w, l2, he, hw, h⟩ := tk_inv h
      have he : l1 = w :: l2 := he
      subst he
      obtain ⟨qs, l3, h1, h2⟩ := bnd_inv h
      obtain ⟨e, ih⟩ := shad_on f _ _ _ _ h2
      refine ⟨e, fun ext g x hx => ?_⟩
      obtain ⟨g1, hg1⟩ := ih ext g x hx
      obtain ⟨f1, hf1⟩ := (cl_decl h1).1 ext
      refine ⟨max f1 g1 + 1, ?_⟩
      rw [pF, if_neg (by simp)]
      refine (if_pos hq).trans ?_
      show tkP typedT (w :: (l2 ++ ext)) _ = _
      rw [tk_yes hw]
      exact (bnd_of (hf1 _ (Nat.le_max_left _ _))).trans (pF_up (Nat.le_max_right _ _) hg1)
    · rw [if_neg hq] at h
      obtain ⟨w, l2, he, hw, h⟩ := tk_inv h
      cases he
      by_cases hf : namedT (l1.headD ti0) = true ∧ isA [[40]] ((l1.drop 1).headD ti0) = true
      · rw [if_pos hf] at h
        obtain ⟨qs, l3, h1, h2⟩ := bnd_inv h
        obtain ⟨e, ih⟩ := shad_on f _ _ _ _ h2
        refine ⟨e, fun ext g x hx => ?_⟩
        obtain ⟨g1, hg1⟩ := ih ext g x hx
        obtain ⟨hc, hlen⟩ := cl_func h1
        obtain ⟨f1, hf1⟩ := hc ext
        obtain ⟨u, v, l4, rfl⟩ : ∃ u v l4, l1 = u :: v :: l4 := by
          match l1, hlen with
          | u :: v :: l4, _ => exact ⟨u, v, l4, rfl⟩
        refine ⟨max f1 g1 + 1, ?_⟩
        rw [pF, if_neg (by simp)]
        refine (if_neg hq).trans ?_
        show tkP typedT (t :: (u :: v :: l4 ++ ext)) _ = _
        rw [tk_yes hw]
        refine (if_pos hf).trans ?_
        exact (bnd_of (hf1 _ (Nat.le_max_left _ _))).trans (pF_up (Nat.le_max_right _ _) hg1)
      · rw [if_neg hf] at h
        obtain ⟨qs, l3, h1, h2⟩ := bnd_inv h
        obtain ⟨e, ih⟩ := shad_on f _ _ _ _ h2
        refine ⟨e, fun ext g x hx => ?_⟩
        obtain ⟨g1, hg1⟩ := ih ext g x hx
        obtain ⟨hc, hlen⟩ := cl_decl h1
        obtain ⟨f1, hf1⟩ := hc ext
        obtain ⟨u, v, l4, rfl⟩ : ∃ u v l4, l1 = u :: v :: l4 := by
          match l1, hlen with
          | u :: v :: l4, _ => exact ⟨u, v, l4, rfl⟩
        refine ⟨max f1 g1 + 1, ?_⟩
        rw [pF, if_neg (by simp)]
        refine (if_neg hq).trans ?_
        show tkP typedT (t :: (u :: v :: l4 ++ ext)) _ = _
        rw [tk_yes hw]
        refine (if_neg hf).trans ?_
        exact (bnd_of (hf1 _ (Nat.le_max_left _ _))).trans (pF_up (Nat.le_max_right _ _) hg1)
theorem shad_acc : ∀ (f : Nat) (acc : List Pt) (l : List Ti) (ps : List Pt) (r : List Ti), pF f (.shad acc) l = some (some ps, r) → ∃ more, ps = acc ++ more
  | 0, _, _, _, _, h => by rw [pF] at h; cases h
  | f + 1, acc, l, ps, r, h => by
    have up : ∀ {q : Pt} {l : List Ti}, pF f (.shad (acc ++ [q])) l = some (some ps, r) → ∃ more, ps = acc ++ more := fun h => by
      obtain ⟨more, rfl⟩ := shad_acc f _ _ _ _ h
      exact ⟨_, List.append_assoc _ _ _⟩
    rw [pF] at h
    split at h
    · cases h
      exact ⟨[], (List.append_nil _).symm⟩
    · split at h
      · obtain ⟨w, l2, he, hw, h⟩ := tk_inv h
        obtain ⟨qs, l3, h1, h2⟩ := bnd_inv h
        exact up h2
      · obtain ⟨w, l2, he, hw, h⟩ := tk_inv h
        split at h
        · obtain ⟨qs, l3, h1, h2⟩ := bnd_inv h
          exact up h2
        · obtain ⟨qs, l3, h1, h2⟩ := bnd_inv h
          exact up h2
theorem hgtL_app : ∀ a b : List Pt, hgtL (a ++ b) = max (hgtL a) (hgtL b)
  | [], b => by rw [hgtL, List.nil_append, Nat.zero_max]
  | p :: a, b => by rw [List.cons_append, hgtL, hgtL, hgtL_app a b, Nat.max_assoc]
theorem put_none {ps : List Pt} : (putP (.mk 1 [] [] 0 0 ps) 0 0 none).2 = none ↔ hgtL ps ≤ 32 := by
  constructor
  · intro h
    by_cases hh : hgtL ps ≤ 32
    · exact hh
    · exact absurd h (putP_far (.mk 1 [] [] 0 0 ps) 0 0 (by rw [hgtP]; omega))
  · intro h
    rw [putP_flt (.mk 1 [] [] 0 0 ps) 0 0 (by rw [hgtP]; omega)]
theorem pF_total (n : Nt) (l : List Ti) : ∃ f x, pF f n l = some x := by
  have h := pF_some (fuelN n l) n l (Nat.le_refl _)
  unfold IsS at h
  obtain ⟨x, hx⟩ := Option.isSome_iff_exists.1 h
  exact ⟨_, x, hx⟩
/-- where it is wrong, it is wrong whatever stands behind the token -/
theorem bad_on {f : Nat} {n : Nt} {l : List Ti} {t : Ti} {rest : List Ti} {o : Option (List Pt)} (h : pF f n l = some (o, t :: rest)) (ext : List Ti) : ∃ g, pF g n (l ++ ext) = some (o, t :: (rest ++ ext)) := by
  obtain ⟨pre, rfl⟩ := split_suf ((pF_loc f n).1 _ _ _ h)
  obtain ⟨f1, hf1⟩ := (pF_loc f n).2 pre t rest (rest ++ ext) _ h
  exact ⟨f1, by rw [List.append_assoc, List.cons_append]; exact hf1 f1 (Nat.le_refl _)⟩
/-- a shader's beginning is one, or is wrong at its end -/
theorem cutB_ok {F G k : Nat} {L l' r : List Ti} {ps : List Pt} {o : Option (List Pt)} (h : pF F (.shad []) L = some (some ps, l')) (hp : hgtL ps ≤ 32) (h' : pF G (.shad []) (L.take k) = some (o, r)) : (o = none → r = []) ∧ ∀ qs, o = some qs → hgtL qs ≤ 32 := by
  constructor
  · rintro rfl
    cases r with
    | nil => rfl
    | cons t rest =>
      obtain ⟨g, hg⟩ := bad_on h' (L.drop k)
      rw [List.take_append_drop] at hg
      have := pF_det h hg
      cases this
  · rintro qs rfl
    obtain ⟨_, hon⟩ := shad_on _ _ _ _ _ h'
    obtain ⟨g, ⟨o2, r2⟩, hx⟩ := pF_total (.shad qs) (L.drop k)
    obtain ⟨g', hg'⟩ := hon _ _ _ hx
    rw [List.take_append_drop] at hg'
    cases pF_det h hg'
    obtain ⟨more, rfl⟩ := shad_acc _ _ _ _ _ hx
    rw [hgtL_app] at hp
    omega
/-- tokens that are wrong at one are wrong at it, whatever stands behind it; what is ahead of it is a shader, or is wrong at its end -/
theorem firstB_ok {F G k : Nat} {L r : List Ti} {o : Option (List Pt)} {t : Ti} {rest : List Ti} (h : pF F (.shad []) L = some (none, t :: rest)) (hk : k + (t :: rest).length = L.length) : (∃ g, pF g (.shad []) (L.take (k + 1)) = some (none, [t])) ∧ (pF G (.shad []) (L.take k) = some (o, r) → o = none → r = []) := by
  obtain ⟨pre, rfl⟩ := split_suf ((pF_loc F (.shad [])).1 _ _ _ h)
  have hpre : pre.length = k := by rw [List.length_append] at hk; omega
  subst hpre
  constructor
  · obtain ⟨f1, hf1⟩ := (pF_loc F (.shad [])).2 pre t rest [] _ h
    refine ⟨f1, ?_⟩
    rw [List.take_append, List.take_of_length_le (by omega), show pre.length + 1 - pre.length = 1 by omega]
    exact hf1 f1 (Nat.le_refl _)
  · rintro h' rfl
    rw [List.take_left] at h'
    cases r with
    | nil => rfl
    | cons u rest' =>
      obtain ⟨g, hg⟩ := bad_on h' (t :: rest)
      have e := pF_det h hg
      have e2 : t :: rest = u :: (rest' ++ t :: rest) := congrArg Prod.snd e
      have := congrArg List.length e2
      simp at this
      omega
end Go.Proofs.Ytbinaeemcidicaa
