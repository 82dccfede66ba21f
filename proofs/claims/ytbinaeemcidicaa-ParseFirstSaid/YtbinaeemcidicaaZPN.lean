/- What stands behind the first token that is left does not count: in plain Lean. No condition. -/
import Derived.Test.YtbinaeemcidicaaZInv
namespace Go.Proofs.Ytbinaeemcidicaa
/-- what is left is an end of what there was; and of what is left the first token alone counts -/
def Loc (E : List Ti → Rp) (E' : Nat → List Ti → Rp) : Prop :=
  (∀ l o r, E l = some (o, r) → r <:+ l) ∧ ∀ pre t rest rest' o, E (pre ++ t :: rest) = some (o, t :: rest) → ∃ f0, ∀ f, f0 ≤ f → E' f (pre ++ t :: rest') = some (o, t :: rest')
theorem suf_split {r pre q : List Ti} (h1 : q <:+ r) (h2 : r <:+ pre ++ q) : ∃ p1 p2, pre = p1 ++ p2 ∧ r = p2 ++ q := by
  obtain ⟨a, rfl⟩ := h1
  obtain ⟨b, hb⟩ := h2
  rw [← List.append_assoc] at hb
  exact ⟨b, a, (List.append_cancel_right hb).symm, rfl⟩
theorem no_self {t : Ti} {l : List Ti} (h : t :: l <:+ l) : False := by
  have := h.length_le
  simp at this
  omega
theorem pre_nil {pre q : List Ti} (h : pre ++ q = q) : pre = [] := by
  have := congrArg List.length h
  simp at this
  exact this
theorem loc_ok (ps : List Pt) : Loc (fun l => okP ps l) (fun _ l => okP ps l) := ⟨fun l o r e => by cases e; exact List.suffix_refl _, fun pre t rest rest' o e => by
  have e1 : some ps = o := congrArg (fun x => x.1) (Option.some.inj e)
  have e2 : pre ++ t :: rest = t :: rest := congrArg (fun x => x.2) (Option.some.inj e)
  have := pre_nil e2
  subst this e1
  exact ⟨0, fun _ _ => rfl⟩⟩
theorem loc_bnd {A : List Ti → Rp} {A' : Nat → List Ti → Rp} {K : List Pt → List Ti → Rp} {K' : Nat → List Pt → List Ti → Rp} (hA : Loc A A') (hK : ∀ ps, Loc (K ps) (fun f => K' f ps)) : Loc (fun l => bndP (A l) (K)) (fun f l => bndP (A' f l) (K' f)) := by
  constructor
  · intro l o r e
    unfold bndP at e
    dsimp only at e
    cases ha : A l with
    | none => rw [ha] at e; cases e
    | some y =>
      obtain ⟨o1, r1⟩ := y
      rw [ha] at e
      have s1 := hA.1 l o1 r1 ha
      cases o1 with
      | none => cases e; exact s1
      | some ps => exact ((hK ps).1 r1 o r e).trans s1
  · intro pre t rest rest' o e
    unfold bndP at e
    dsimp only at e
    cases ha : A (pre ++ t :: rest) with
    | none => rw [ha] at e; cases e
    | some y =>
      obtain ⟨o1, r1⟩ := y
      rw [ha] at e
      cases o1 with
      | none =>
        have e1 : none = o := congrArg (fun x => x.1) (Option.some.inj e)
        have e2 : r1 = t :: rest := congrArg (fun x => x.2) (Option.some.inj e)
        subst e1 e2
        obtain ⟨f0, h⟩ := hA.2 pre t rest rest' none ha
        exact ⟨f0, fun f hf => by
          show bndP (A' f (pre ++ t :: rest')) (K' f) = _
          rw [h f hf]
          rfl⟩
      | some ps =>
        have s2 := (hK ps).1 r1 o (t :: rest) e
        obtain ⟨p1, p2, rfl, rfl⟩ := suf_split s2 (hA.1 _ _ _ ha)
        have step : ∃ f0, ∀ f, f0 ≤ f → A' f (p1 ++ p2 ++ t :: rest') = some (some ps, p2 ++ t :: rest') := by
          cases p2 with
          | nil =>
            rw [List.append_nil] at ha ⊢
            exact hA.2 p1 t rest rest' (some ps) ha
          | cons u p3 =>
            rw [List.append_assoc] at ha ⊢
            exact hA.2 p1 u (p3 ++ t :: rest) (p3 ++ t :: rest') (some ps) ha
        obtain ⟨f1, h1⟩ := step
        obtain ⟨f2, h2⟩ := (hK ps).2 p2 t rest rest' o e
        exact ⟨max f1 f2, fun f hf => by
          show bndP (A' f (p1 ++ p2 ++ t :: rest')) (K' f) = _
          rw [h1 f (by omega)]
          exact h2 f (by omega)⟩
theorem loc_tk {p : Ti → Bool} {K : Ti → List Ti → Rp} {K' : Nat → Ti → List Ti → Rp} (hK : ∀ t, Loc (K t) (fun f => K' f t)) : Loc (fun l => tkP p l K) (fun f l => tkP p l (K' f)) := by
  constructor
  · intro l o r e
    unfold tkP at e
    dsimp only at e
    cases l with
    | nil => cases e; exact List.suffix_refl _
    | cons t l =>
      dsimp only at e
      split at e
      · exact ((hK t).1 l o r e).trans (List.suffix_cons t l)
      · cases e; exact List.suffix_refl _
  · intro pre t rest rest' o e
    unfold tkP at e
    dsimp only at e
    cases pre with
    | nil =>
      dsimp only [List.nil_append] at e
      split at e
      · exact (no_self ((hK t).1 rest o _ e)).elim
      · rename_i hp
        have e1 : none = o := congrArg (fun x => x.1) (Option.some.inj e)
        subst e1
        exact ⟨0, fun f _ => by
          show tkP p (t :: rest') (K' f) = _
          unfold tkP
          dsimp only
          rw [if_neg hp]
          rfl⟩
    | cons u pre =>
      dsimp only [List.cons_append] at e
      split at e
      · rename_i hp
        obtain ⟨f0, h⟩ := (hK u).2 pre t rest rest' o e
        exact ⟨f0, fun f hf => by
          show tkP p (u :: (pre ++ t :: rest')) (K' f) = _
          rw [tk_yes hp]
          exact h f hf⟩
      · have e2 : u :: (pre ++ t :: rest) = t :: rest := congrArg (fun x => x.2) (Option.some.inj e)
        have := pre_nil (pre := u :: pre) e2
        cases this
/-- a choice by the first token -/
theorem loc_head {P : Ti → Prop} [∀ t, Decidable (P t)] {A B : List Ti → Rp} {A' B' : Nat → List Ti → Rp} (hA : Loc A A') (hB : Loc B B') :
    Loc (fun l => if P (l.headD ti0) then A l else B l) (fun f l => if P (l.headD ti0) then A' f l else B' f l) := by
  constructor
  · intro l o r e
    dsimp only at e
    split at e
    · exact hA.1 l o r e
    · exact hB.1 l o r e
  · intro pre t rest rest' o e
    have hd : (pre ++ t :: rest').headD ti0 = (pre ++ t :: rest).headD ti0 := by cases pre <;> rfl
    dsimp only at e ⊢
    simp only [hd]
    split at e
    · rename_i h; simp only [if_pos h]; exact hA.2 pre t rest rest' o e
    · rename_i h; simp only [if_neg h]; exact hB.2 pre t rest rest' o e
theorem loc_may {s : List (List UInt8)} {K : Ti → List Ti → Rp} {K' : Nat → Ti → List Ti → Rp} {B : List Ti → Rp} {B' : Nat → List Ti → Rp} (hK : ∀ t, Loc (K t) (fun f => K' f t)) (hB : Loc B B') :
    Loc (fun l => mayP s l K (B l)) (fun f l => mayP s l (K' f) (B' f l)) := by
  constructor
  · intro l o r e
    rcases may_inv e with ⟨t, l1, rfl, _, e⟩ | ⟨_, e⟩
    · exact ((hK t).1 l1 o r e).trans (List.suffix_cons t l1)
    · exact hB.1 l o r e
  · intro pre t rest rest' o e
    cases pre with
    | nil =>
      rcases may_inv e with ⟨u, l1, h1, _, e⟩ | ⟨hn, e⟩
      · cases h1
        exact (no_self ((hK t).1 rest o _ e)).elim
      · obtain ⟨f0, h⟩ := hB.2 [] t rest rest' o e
        exact ⟨f0, fun f hf => by
          show mayP s (t :: rest') (K' f) _ = _
          rw [may_no (show hNo s (t :: rest') from hn)]
          exact h f hf⟩
    | cons u pre =>
      rcases may_inv e with ⟨v, l1, h1, hv, e⟩ | ⟨hn, e⟩
      · cases h1
        obtain ⟨f0, h⟩ := (hK u).2 pre t rest rest' o e
        exact ⟨f0, fun f hf => by
          show mayP s (u :: (pre ++ t :: rest')) (K' f) _ = _
          rw [may_yes hv]
          exact h f hf⟩
      · obtain ⟨f0, h⟩ := hB.2 (u :: pre) t rest rest' o e
        exact ⟨f0, fun f hf => by
          show mayP s (u :: (pre ++ t :: rest')) (K' f) _ = _
          rw [may_no (show hNo s (u :: (pre ++ t :: rest')) from hn)]
          exact h f hf⟩
theorem loc_mayO {s : List (List UInt8)} {A B : List Ti → Rp} {A' B' : Nat → List Ti → Rp} (hA : Loc A A') (hB : Loc B B') : Loc (fun l => mayP s l (fun _ _ => A l) (B l)) (fun f l => mayP s l (fun _ _ => A' f l) (B' f l)) := by
  have key : ∀ (l : List Ti) (a b : Rp), mayP s l (fun _ _ => a) b = if isA s (l.headD ti0) = true then a else b := fun l a b => by
    unfold mayP
    cases l with
    | nil =>
      have : isA s ti0 = false := rfl
      dsimp only
      rw [List.headD_nil, if_neg (by rw [this]; decide)]
    | cons t l => rfl
  have := loc_head (P := fun t => isA s t = true) hA hB
  simp only [key]
  exact this
theorem loc_ite {P : Prop} [Decidable P] {A B : List Ti → Rp} {A' B' : Nat → List Ti → Rp} (hA : P → Loc A A') (hB : ¬P → Loc B B') : Loc (fun l => if P then A l else B l) (fun f l => if P then A' f l else B' f l) := by
  by_cases h : P
  · simp only [if_pos h]; exact hA h
  · simp only [if_neg h]; exact hB h
theorem loc_step {n : Nt} {f : Nat} {E : List Ti → Rp} {E' : Nat → List Ti → Rp} (h1 : ∀ l, pF (f + 1) n l = E l) (h2 : ∀ f l, pF (f + 1) n l = E' f l) (h : Loc E E') : Loc (pF (f + 1) n) (fun f => pF f n) := by
  constructor
  · intro l o r e
    rw [h1] at e
    exact h.1 l o r e
  · intro pre t rest rest' o e
    rw [h1] at e
    obtain ⟨f0, h⟩ := h.2 pre t rest rest' o e
    refine ⟨f0 + 1, fun f hf => ?_⟩
    obtain ⟨f, rfl⟩ : ∃ g, f = g + 1 := ⟨f - 1, by omega⟩
    show pF (f + 1) n _ = _
    rw [h2]
    exact h f (by omega)
/-- a token that an expression may begin with is taken -/
theorem taken_un : ∀ (f : Nat) (t : Ti) (rest : List Ti) o r, fstT t = true → (pF f .fst (t :: rest) = some (o, r) ∨ pF f .un (t :: rest) = some (o, r) ∨ (∃ k, pF f (.bin k) (t :: rest) = some (o, r)) ∨ pF f .cond (t :: rest) = some (o, r) ∨ pF f .expr (t :: rest) = some (o, r)) → r.length ≤ rest.length
  | 0, t, rest, o, r, ht, h => by
    rcases h with h | h | ⟨k, h⟩ | h | h <;> (rw [pF] at h; cases h)
  | f + 1, t, rest, o, r, ht, h => by
    have ih := taken_un f t rest
    have good := fun {n l o r} (h : pF f n l = some (o, r)) => (pF_good f n l o r h).1.length_le
    have viaBnd : ∀ {x : Rp} {K : List Pt → List Ti → Rp}, (∀ o r, x = some (o, r) → r.length ≤ rest.length) → (∀ ps l o r, K ps l = some (o, r) → r.length ≤ l.length) → bndP x K = some (o, r) → r.length ≤ rest.length := fun {x K} hx hK e => by
      unfold bndP at e
      cases x with
      | none => cases e
      | some y =>
        obtain ⟨o1, r1⟩ := y
        have h1 := hx o1 r1 rfl
        cases o1 with
        | none => cases e; exact h1
        | some ps => exact Nat.le_trans (hK ps r1 o r e) h1
    have gb : ∀ {l : List Ti} {m : Nat} {x : Rp} {o r}, Good m l x → x = some (o, r) → r.length ≤ l.length := fun hg e => (hg _ _ e).1.length_le
    rcases h with h | h | ⟨k, h⟩ | h | h
    · rw [pF, tk_yes ht] at h
      refine gb (m := 0) ?_ h
      have go : ∀ {n : Nt} {l' : List Ti}, l' <:+ rest → Good 0 rest (pF f n l') := fun hs => good_weak (m := 0) hs (fun o l2 e => ⟨(pF_good f _ _ _ _ e).1, fun _ => (pF_good f _ _ _ _ e).1.length_le⟩) (by have := hs.length_le; omega)
      have all := List.suffix_refl rest
      repeat' (first
        | exact all | assumption
        | (refine good_ok ?_ ?_) | (refine good_bad ?_)
        | (refine good_tk ?_ ?_; rotate_left; intro t l1 hs hl)
        | (refine good_bnd (m1 := 0) all (go (by assumption)) ?_; intro ps l2 hs2 hl2)
        | (refine good_ite ?_ ?_ <;> intro hc)
        | (have := List.IsSuffix.length_le (by assumption); omega)
        | (simp; done))
    · rw [pF] at h
      rcases may_inv h with ⟨u, l1, e1, _, h⟩ | ⟨_, h⟩
      · cases e1
        refine viaBnd (fun o r e => good e) (fun ps l o r e => ?_) h
        cases e; exact Nat.le_refl _
      · exact viaBnd (fun o r e => ih o r ht (.inl e)) (fun ps l o r e => good e) h
    · rw [pF] at h
      refine viaBnd (fun o r e => ?_) (fun ps l o r e => good e) h
      unfold binN at e
      split at e
      · exact ih o r ht (.inr (.inr (.inl ⟨_, e⟩)))
      · exact ih o r ht (.inr (.inl e))
    · rw [pF] at h
      refine viaBnd (fun o r e => ih o r ht (.inr (.inr (.inl ⟨_, e⟩)))) (fun ps l o r e => ?_) h
      refine gb (m := 0) ?_ e
      have go : ∀ {n : Nt} {l' : List Ti}, l' <:+ l → Good 0 l (pF f n l') := fun hs => good_weak (m := 0) hs (fun o l2 e => ⟨(pF_good f _ _ _ _ e).1, fun _ => (pF_good f _ _ _ _ e).1.length_le⟩) (by have := hs.length_le; omega)
      have all := List.suffix_refl l
      refine good_may all (fun t l1 hs hl => good_bnd (m1 := 0) all (go hs) fun ps l2 hs2 hl2 => good_tk hs2 fun u l3 hs3 hl3 => good_bnd (m1 := 0) all (go hs3) fun qs l4 hs4 hl4 => good_ok hs4 (by have := hs4.length_le; omega)) (good_ok all (by omega))
    · rw [pF] at h
      refine viaBnd (fun o r e => ih o r ht (.inr (.inr (.inr (.inl e))))) (fun ps l o r e => ?_) h
      refine gb (m := 0) ?_ e
      have go : ∀ {n : Nt} {l' : List Ti}, l' <:+ l → Good 0 l (pF f n l') := fun hs => good_weak (m := 0) hs (fun o l2 e => ⟨(pF_good f _ _ _ _ e).1, fun _ => (pF_good f _ _ _ _ e).1.length_le⟩) (by have := hs.length_le; omega)
      have all := List.suffix_refl l
      exact good_ite (fun _ => good_may all (fun t l1 hs hl => good_bnd (m1 := 0) all (go hs) fun qs l4 hs4 hl4 => good_ok hs4 (by have := hs4.length_le; omega)) (good_ok all (by omega))) (fun _ => good_ok all (by omega))
theorem taken_name : ∀ (f : Nat) (t : Ti) (rest : List Ti) o r, namedT t = true → ((∃ w, pF f (.func w) (t :: rest) = some (o, r)) ∨ (∃ a ty tx, pF f (.decl a ty tx) (t :: rest) = some (o, r)) ∨ (∃ acc, pF f (.vars acc) (t :: rest) = some (o, r))) → r.length ≤ rest.length
  | 0, t, rest, o, r, ht, h => by
    rcases h with ⟨w, h⟩ | ⟨a, ty, tx, h⟩ | ⟨acc, h⟩ <;> (rw [pF] at h; cases h)
  | f + 1, t, rest, o, r, ht, h => by
    have ih := taken_name f t rest
    have gb : ∀ {l : List Ti} {m : Nat} {x : Rp} {o r}, Good m l x → x = some (o, r) → r.length ≤ l.length := fun hg e => (hg _ _ e).1.length_le
    have go : ∀ {l : List Ti} {n : Nt} {l' : List Ti}, l' <:+ l → Good 0 l (pF f n l') := fun hs => good_weak (m := 0) hs (fun o l2 e => ⟨(pF_good f _ _ _ _ e).1, fun _ => (pF_good f _ _ _ _ e).1.length_le⟩) (by have := hs.length_le; omega)
    have all := List.suffix_refl rest
    rcases h with ⟨w, h⟩ | ⟨a, ty, tx, h⟩ | ⟨acc, h⟩
    · rw [pF, tk_yes ht] at h
      exact gb (m := 0) (good_tk all fun u l1 hs hl => good_bnd (m1 := 0) all (go hs) fun ps l2 hs2 hl2 => good_bnd (m1 := 0) all (go hs2) fun qs l3 hs3 hl3 => good_ok hs3 (by have := hs3.length_le; omega)) h
    · rw [pF] at h
      unfold bndP at h
      cases hv : pF f (.vars []) (t :: rest) with
      | none => rw [hv] at h; cases h
      | some y =>
        obtain ⟨o1, r1⟩ := y
        have h1 := ih o1 r1 ht (.inr (.inr ⟨_, hv⟩))
        rw [hv] at h
        cases o1 with
        | none => cases h; exact h1
        | some ps =>
          refine Nat.le_trans (gb (l := r1) (m := 0) ?_ h) h1
          exact good_tk (List.suffix_refl r1) fun u l1 hs hl => good_ok hs (by have := hs.length_le; omega)
    · rw [pF, tk_yes ht] at h
      exact gb (m := 0) (good_may all (fun u l1 hs hl => good_bnd (m1 := 0) all (go hs) fun ps l2 hs2 hl2 => go hs2) (go all)) h
/-- the statement that is an expression or a decl -/
def lastF (f : Nat) (l : List Ti) : Rp :=
  if typedT (l.headD ti0) = true ∧ ¬isA [[40]] ((l.drop 1).headD ti0) = true then pF f (.decl (l.headD ti0).a (l.headD ti0).t []) (l.drop 1)
  else bndP (pF f .expr l) fun ps l' => tkP (isA [[59]]) l' fun _ l' => okP [.mk 11 [] [] 0 (l.headD ti0).a [hdP ps]] l'
theorem typed_fst {t : Ti} (h : typedT t = true) : fstT t = true := by
  unfold fstT
  rw [h]
  simp
theorem loc_last {f : Nat} (ih : ∀ n, Loc (pF f n) (fun f => pF f n)) : Loc (lastF f) lastF := by
  have he : ∀ a, Loc (fun l => bndP (pF f .expr l) fun ps l' => tkP (isA [[59]]) l' fun _ l' => okP [.mk 11 [] [] 0 a [hdP ps]] l') (fun f l => bndP (pF f .expr l) fun ps l' => tkP (isA [[59]]) l' fun _ l' => okP [.mk 11 [] [] 0 a [hdP ps]] l') :=
    fun a => loc_bnd (ih .expr) fun ps => loc_tk fun _ => loc_ok _
  constructor
  · intro l o r e
    unfold lastF at e
    split at e
    · exact ((ih _).1 _ o r e).trans (List.drop_suffix 1 l)
    · exact (he _).1 l o r e
  · intro pre t rest rest' o e
    unfold lastF at e
    cases pre with
    | nil =>
      rw [List.nil_append] at e
      have hnt : ¬typedT t = true := fun ht => by
        split at e
        · exact no_self ((ih _).1 _ o _ e)
        · unfold bndP at e
          cases hx : pF f .expr (t :: rest) with
          | none => rw [hx] at e; cases e
          | some y =>
            obtain ⟨o1, r1⟩ := y
            have h1 := taken_un f t rest o1 r1 (typed_fst ht) (.inr (.inr (.inr (.inr hx))))
            rw [hx] at e
            cases o1 with
            | none =>
              have e2 : r1 = t :: rest := congrArg (fun x => x.2) (Option.some.inj e)
              rw [e2] at h1
              simp at h1
              omega
            | some ps =>
              have hs : (t :: rest) <:+ r1 := (loc_tk (p := isA [[59]]) (K := fun _ l' => okP [.mk 11 [] [] 0 t.a [hdP ps]] l') (K' := fun _ _ l' => okP [.mk 11 [] [] 0 t.a [hdP ps]] l') fun _ => loc_ok _).1 r1 o _ e
              have := hs.length_le
              simp at this
              omega
      rw [if_neg (fun h => hnt h.1)] at e
      obtain ⟨f0, h⟩ := (he t.a).2 [] t rest rest' o e
      exact ⟨f0, fun f hf => by
        unfold lastF
        rw [if_neg (fun h => hnt h.1)]
        exact h f hf⟩
    | cons u pre =>
      have hd : ((u :: pre ++ t :: rest').drop 1).headD ti0 = ((u :: pre ++ t :: rest).drop 1).headD ti0 := by cases pre <;> rfl
      have hh : (u :: pre ++ t :: rest').headD ti0 = (u :: pre ++ t :: rest).headD ti0 := rfl
      split at e
      · rename_i hc
        obtain ⟨f0, h⟩ := (ih (.decl u.a u.t [])).2 pre t rest rest' o e
        exact ⟨f0, fun f hf => by
          unfold lastF
          rw [hd, hh, if_pos hc]
          exact h f hf⟩
      · rename_i hc
        obtain ⟨f0, h⟩ := (he u.a).2 (u :: pre) t rest rest' o e
        exact ⟨f0, fun f hf => by
          unfold lastF
          rw [hd, hh, if_neg hc]
          exact h f hf⟩
/-- what stands behind a type at the top -/
def topF (f : Nat) (acc : List Pt) (w : Ti) (l : List Ti) : Rp :=
  if namedT (l.headD ti0) = true ∧ isA [[40]] ((l.drop 1).headD ti0) = true then bndP (pF f (.func w) l) fun ps l' => pF f (.shad (acc ++ [hdP ps])) l'
  else bndP (pF f (.decl w.a w.t []) l) fun ps l' => pF f (.shad (acc ++ [hdP ps])) l'
theorem loc_top {f : Nat} (ih : ∀ n, Loc (pF f n) (fun f => pF f n)) (acc : List Pt) (w : Ti) : Loc (topF f acc w) (fun f => topF f acc w) := by
  have hs : ∀ n, Loc (fun l => bndP (pF f n l) fun ps l' => pF f (.shad (acc ++ [hdP ps])) l') (fun f l => bndP (pF f n l) fun ps l' => pF f (.shad (acc ++ [hdP ps])) l') := fun n => loc_bnd (ih n) fun ps => ih _
  constructor
  · intro l o r e
    unfold topF at e
    split at e
    · exact (hs _).1 l o r e
    · exact (hs _).1 l o r e
  · intro pre t rest rest' o e
    cases pre with
    | nil =>
      rw [List.nil_append] at e
      have hnt : ¬namedT t = true := fun ht => by
        have bad : ∀ n, (∀ o r, pF f n (t :: rest) = some (o, r) → r.length ≤ rest.length) → bndP (pF f n (t :: rest)) (fun ps l' => pF f (.shad (acc ++ [hdP ps])) l') = some (o, t :: rest) → False := fun n hn e => by
          unfold bndP at e
          cases hx : pF f n (t :: rest) with
          | none => rw [hx] at e; cases e
          | some y =>
            obtain ⟨o1, r1⟩ := y
            have h1 := hn o1 r1 hx
            rw [hx] at e
            cases o1 with
            | none =>
              have e2 : r1 = t :: rest := congrArg (fun x => x.2) (Option.some.inj e)
              rw [e2] at h1
              simp at h1
              omega
            | some ps =>
              have := ((ih _).1 r1 o _ e).length_le
              simp at this
              omega
        unfold topF at e
        split at e
        · exact bad _ (fun o r h => taken_name f t rest o r ht (.inl ⟨_, h⟩)) e
        · exact bad _ (fun o r h => taken_name f t rest o r ht (.inr (.inl ⟨_, _, _, h⟩))) e
      unfold topF at e
      rw [if_neg (fun h => hnt h.1)] at e
      obtain ⟨f0, h⟩ := (hs (.decl w.a w.t [])).2 [] t rest rest' o e
      exact ⟨f0, fun f hf => by
        show topF f acc w (t :: rest') = _
        unfold topF
        rw [if_neg (fun h => hnt h.1)]
        exact h f hf⟩
    | cons u pre =>
      have hd : ((u :: pre ++ t :: rest').drop 1).headD ti0 = ((u :: pre ++ t :: rest).drop 1).headD ti0 := by cases pre <;> rfl
      have hh : (u :: pre ++ t :: rest').headD ti0 = (u :: pre ++ t :: rest).headD ti0 := rfl
      unfold topF at e
      split at e
      · rename_i hc
        obtain ⟨f0, h⟩ := (hs (.func w)).2 (u :: pre) t rest rest' o e
        exact ⟨f0, fun f hf => by
          show topF f acc w (u :: pre ++ t :: rest') = _
          unfold topF
          rw [hd, hh, if_pos hc]
          exact h f hf⟩
      · rename_i hc
        obtain ⟨f0, h⟩ := (hs (.decl w.a w.t [])).2 (u :: pre) t rest rest' o e
        exact ⟨f0, fun f hf => by
          show topF f acc w (u :: pre ++ t :: rest') = _
          unfold topF
          rw [hd, hh, if_neg hc]
          exact h f hf⟩
theorem pF_loc : ∀ (f : Nat) (n : Nt), Loc (pF f n) (fun f => pF f n)
  | 0, n => ⟨fun l o r h => (by rw [pF] at h; cases h), fun pre t rest rest' o h => (by rw [pF] at h; cases h)⟩
  | f + 1, n => by
    have ih := pF_loc f
    cases n with
    | expr => exact loc_step (fun l => by rw [pF]) (fun f l => by rw [pF]) (loc_bnd (ih .cond) fun ps => loc_ite (fun _ => loc_may (fun t => loc_bnd (ih .expr) fun qs => loc_ok _) (loc_ok _)) fun _ => loc_ok _)
    | cond => exact loc_step (fun l => by rw [pF]) (fun f l => by rw [pF]) (loc_bnd (ih (.bin 0)) fun ps => loc_may (fun t => loc_bnd (ih .expr) fun qs => loc_tk fun _ => loc_bnd (ih .cond) fun rs => loc_ok _) (loc_ok _))
    | bin k => exact loc_step (fun l => by rw [pF]) (fun f l => by rw [pF]) (loc_bnd (ih (binN k)) fun ps => ih _)
    | binL k p => exact loc_step (fun l => by rw [pF]) (fun f l => by rw [pF]) (loc_may (fun t => loc_bnd (ih (binN k)) fun qs => ih _) (loc_ok _))
    | un => exact loc_step (fun l => by rw [pF]) (fun f l => by rw [pF]) (loc_may (fun t => loc_bnd (ih .un) fun qs => loc_ok _) (loc_bnd (ih .fst) fun ps => ih _))
    | fld p => exact loc_step (fun l => by rw [pF]) (fun f l => by rw [pF]) (loc_may (fun _ => loc_tk fun t => ih _) (loc_ok _))
    | fst => exact loc_step (fun l => by rw [pF]) (fun f l => by rw [pF]) (loc_tk fun t => loc_ite (fun _ => loc_ok _) fun _ => loc_ite (fun _ => loc_bnd (ih .expr) fun ps => loc_tk fun _ => loc_ok _) fun _ => loc_ite (fun _ => loc_ok _) fun _ =>
        loc_head (P := fun u => namedT t = true ∧ ¬isA [[40]] u = true) (loc_ok _) (loc_tk fun _ => loc_bnd (ih .list) fun ps => loc_ok _))
    | list => exact loc_step (fun l => by rw [pF]) (fun f l => by rw [pF]) (loc_may (fun _ => loc_ok _) (ih _))
    | args acc => exact loc_step (fun l => by rw [pF]) (fun f l => by rw [pF]) (loc_bnd (ih .expr) fun ps => loc_may (fun _ => ih _) (loc_tk fun _ => loc_ok _))
    | stmt =>
      refine loc_step (E := fun l => mayP [[123]] l (fun _ _ => pF f .blk l) <|
          mayP [[105, 102]] l (fun t l => tkP (isA [[40]]) l fun _ l => bndP (pF f .expr l) fun ps l => tkP (isA [[41]]) l fun _ l => bndP (pF f .stmt l) fun qs l =>
            mayP [[101, 108, 115, 101]] l (fun _ l => bndP (pF f .stmt l) fun rs l => okP [.mk 7 [] [] 0 t.a [hdP ps, hdP qs, hdP rs]] l) (okP [.mk 7 [] [] 0 t.a [hdP ps, hdP qs]] l)) <|
          mayP [[102, 111, 114]] l (fun _ _ => pF f .loop l) <|
          mayP [[114, 101, 116, 117, 114, 110]] l (fun t l => mayP [[59]] l (fun _ l => okP [.mk 9 [] [] 0 t.a []] l) (bndP (pF f .expr l) fun ps l => tkP (isA [[59]]) l fun _ l => okP [.mk 9 [] [] 0 t.a [hdP ps]] l)) <|
          mayP [[100, 105, 115, 99, 97, 114, 100]] l (fun t l => tkP (isA [[59]]) l fun _ l => okP [.mk 10 [] [] 0 t.a []] l) <|
          mayP [[59]] l (fun t l => okP [.mk 12 [] [] 0 t.a []] l) <|
          mayP [[99, 111, 110, 115, 116]] l (fun t l => tkP typedT l fun w l => pF f (.decl t.a w.t t.t) l) <| lastF f l)
        (E' := fun f l => mayP [[123]] l (fun _ _ => pF f .blk l) <|
          mayP [[105, 102]] l (fun t l => tkP (isA [[40]]) l fun _ l => bndP (pF f .expr l) fun ps l => tkP (isA [[41]]) l fun _ l => bndP (pF f .stmt l) fun qs l =>
            mayP [[101, 108, 115, 101]] l (fun _ l => bndP (pF f .stmt l) fun rs l => okP [.mk 7 [] [] 0 t.a [hdP ps, hdP qs, hdP rs]] l) (okP [.mk 7 [] [] 0 t.a [hdP ps, hdP qs]] l)) <|
          mayP [[102, 111, 114]] l (fun _ _ => pF f .loop l) <|
          mayP [[114, 101, 116, 117, 114, 110]] l (fun t l => mayP [[59]] l (fun _ l => okP [.mk 9 [] [] 0 t.a []] l) (bndP (pF f .expr l) fun ps l => tkP (isA [[59]]) l fun _ l => okP [.mk 9 [] [] 0 t.a [hdP ps]] l)) <|
          mayP [[100, 105, 115, 99, 97, 114, 100]] l (fun t l => tkP (isA [[59]]) l fun _ l => okP [.mk 10 [] [] 0 t.a []] l) <|
          mayP [[59]] l (fun t l => okP [.mk 12 [] [] 0 t.a []] l) <|
          mayP [[99, 111, 110, 115, 116]] l (fun t l => tkP typedT l fun w l => pF f (.decl t.a w.t t.t) l) <| lastF f l)
        (fun l => by rw [pF]; rfl) (fun f l => by rw [pF]; rfl) ?_
      exact loc_mayO (ih .blk) (loc_may (fun t => loc_tk fun _ => loc_bnd (ih .expr) fun ps => loc_tk fun _ => loc_bnd (ih .stmt) fun qs => loc_may (fun _ => loc_bnd (ih .stmt) fun rs => loc_ok _) (loc_ok _))
        (loc_mayO (ih .loop) (loc_may (fun t => loc_may (fun _ => loc_ok _) (loc_bnd (ih .expr) fun ps => loc_tk fun _ => loc_ok _))
        (loc_may (fun t => loc_tk fun _ => loc_ok _) (loc_may (fun t => loc_ok _) (loc_may (fun t => loc_tk fun w => ih _) (loc_last ih)))))))
    | blk => exact loc_step (fun l => by rw [pF]) (fun f l => by rw [pF]) (loc_tk fun t => loc_bnd (ih _) fun ps => loc_ok _)
    | stms acc => exact loc_step (fun l => by rw [pF]) (fun f l => by rw [pF]) (loc_may (fun _ => loc_ok _) (loc_bnd (ih .stmt) fun ps => ih _))
    | decl a ty tx => exact loc_step (fun l => by rw [pF]) (fun f l => by rw [pF]) (loc_bnd (ih _) fun ps => loc_tk fun _ => loc_ok _)
    | vars acc => exact loc_step (fun l => by rw [pF]) (fun f l => by rw [pF]) (loc_tk fun t => loc_may (fun _ => loc_bnd (ih .expr) fun ps => ih _) (ih _))
    | varE acc v => exact loc_step (fun l => by rw [pF]) (fun f l => by rw [pF]) (loc_may (fun _ => ih _) (loc_ok _))
    | func w => exact loc_step (fun l => by rw [pF]) (fun f l => by rw [pF]) (loc_tk fun t => loc_tk fun _ => loc_bnd (ih .pars) fun ps => loc_bnd (ih .blk) fun bs => loc_ok _)
    | pars => exact loc_step (fun l => by rw [pF]) (fun f l => by rw [pF]) (loc_may (fun _ => loc_ok _) (ih _))
    | parL acc => exact loc_step (fun l => by rw [pF]) (fun f l => by rw [pF]) (loc_tk fun w => loc_tk fun t => loc_may (fun _ => ih _) (loc_tk fun _ => loc_ok _))
    | loop => exact loc_step (fun l => by rw [pF]) (fun f l => by rw [pF]) (loc_tk fun t => loc_tk fun _ => loc_tk fun _ => loc_tk fun nm => loc_tk fun _ => loc_bnd (ih .bnd) fun ps => loc_tk fun _ => loc_tk fun _ => loc_tk fun _ => loc_bnd (ih .bnd) fun qs => loc_tk fun _ => loc_tk fun _ => loc_tk fun _ => loc_tk fun _ => loc_bnd (ih .stmt) fun rs => loc_ok _)
    | bnd => exact loc_step (fun l => by rw [pF]) (fun f l => by rw [pF]) (loc_may (fun t => loc_tk fun u => loc_ok _) (loc_tk fun u => loc_ok _))
    | shad acc =>
      have q1 : ∀ a tx, Loc (fun l => tkP typedT l fun w l' => bndP (pF f (.decl a w.t tx) l') fun ps l' => pF f (.shad (acc ++ [hdP ps])) l') (fun f l => tkP typedT l fun w l' => bndP (pF f (.decl a w.t tx) l') fun ps l' => pF f (.shad (acc ++ [hdP ps])) l') :=
        fun a tx => loc_tk fun w => loc_bnd (ih _) fun ps => ih _
      have q2 : Loc (fun l => tkP typedT l fun w l' => topF f acc w l') (fun f l => tkP typedT l fun w l' => topF f acc w l') := loc_tk fun w => loc_top ih acc w
      have eq : ∀ (f : Nat) (u : Ti) (l : List Ti), pF (f + 1) (.shad acc) (u :: l) = if (decide (u.k = 1) && isQua u.t) = true then tkP typedT l (fun w l' => bndP (pF f (.decl u.a w.t u.t) l') fun ps l' => pF f (.shad (acc ++ [hdP ps])) l') else tkP typedT (u :: l) (fun w l' => topF f acc w l') := fun f u l => by
        rw [pF, if_neg (by simp)]
        rfl
      constructor
      · intro l o r e
        cases l with
        | nil =>
          rw [pF, if_pos rfl] at e
          cases e
          exact List.suffix_refl _
        | cons u l =>
          rw [eq] at e
          split at e
          · exact ((q1 _ _).1 l o r e).trans (List.suffix_cons u l)
          · exact q2.1 _ o r e
      · intro pre t rest rest' o e
        have fin : ∀ (u : Ti) (l l' : List Ti), (decide (u.k = 1) && isQua u.t) = true → (∃ f0, ∀ f, f0 ≤ f → tkP typedT l' (fun w l' => bndP (pF f (.decl u.a w.t u.t) l') fun ps l' => pF f (.shad (acc ++ [hdP ps])) l') = some (o, t :: rest')) → ∃ f0, ∀ f, f0 ≤ f → pF f (.shad acc) (u :: l') = some (o, t :: rest') := fun u l l' hq ⟨f0, h⟩ => ⟨f0 + 1, fun f hf => by
          obtain ⟨f, rfl⟩ : ∃ g, f = g + 1 := ⟨f - 1, by omega⟩
          rw [eq, if_pos hq]
          exact h f (by omega)⟩
        have fin2 : ∀ (u : Ti) (l' : List Ti), ¬(decide (u.k = 1) && isQua u.t) = true → (∃ f0, ∀ f, f0 ≤ f → tkP typedT (u :: l') (fun w l' => topF f acc w l') = some (o, t :: rest')) → ∃ f0, ∀ f, f0 ≤ f → pF f (.shad acc) (u :: l') = some (o, t :: rest') := fun u l' hq ⟨f0, h⟩ => ⟨f0 + 1, fun f hf => by
          obtain ⟨f, rfl⟩ : ∃ g, f = g + 1 := ⟨f - 1, by omega⟩
          rw [eq, if_neg hq]
          exact h f (by omega)⟩
        cases pre with
        | nil =>
          rw [List.nil_append, eq] at e
          split at e
          · exact (no_self ((q1 _ _).1 rest o _ e)).elim
          · rename_i hq
            exact fin2 t rest' hq (q2.2 [] t rest rest' o e)
        | cons u pre =>
          rw [List.cons_append, eq] at e
          split at e
          · rename_i hq
            exact fin u [] (pre ++ t :: rest') hq ((q1 _ _).2 pre t rest rest' o e)
          · rename_i hq
            exact fin2 u (pre ++ t :: rest') hq (q2.2 (u :: pre) t rest rest' o e)
end Go.Proofs.Ytbinaeemcidicaa
