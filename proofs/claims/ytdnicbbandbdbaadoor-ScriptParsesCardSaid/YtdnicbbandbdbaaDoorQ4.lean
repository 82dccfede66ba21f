/- Lines of scripts as the document reads them: in plain Lean. No condition. -/
import Derived.Test.YtdnicbbandbdbaaDoorQ3
namespace Go.Proofs.YtdnicbbandbdbaaDoor
/-- parts: split at blanks, but within quotes -/
def partsG : List UInt8 → List UInt8 → List (List UInt8)
  | cur, [] => [cur]
  | cur, c :: t => if c = 32 ∧ cur.head? ≠ some 34 then cur :: partsG [] t else partsG (cur ++ [c]) t
def partsR (s : List UInt8) : List (List UInt8) := partsG [] s
theorem parts_ne : ∀ (s cur : List UInt8), partsG cur s ≠ []
  | [], cur => by simp [partsG]
  | c :: t, cur => by
    rw [partsG]
    split
    · simp
    · exact parts_ne t _
theorem parts_join : ∀ (s cur : List UInt8), joinS (partsG cur s) = cur ++ s
  | [], cur => by simp [partsG, joinS]
  | c :: t, cur => by
    rw [partsG]
    split
    · rename_i h
      rw [join_flat]
      have ih := parts_join t []
      have hne := parts_ne t []
      cases hp : partsG [] t with
      | nil => exact absurd hp hne
      | cons p l =>
        rw [hp, join_flat] at ih
        rw [List.flatMap_cons, List.cons_append, ih, h.1]
        simp
    · rw [parts_join t]
      simp
theorem parts_run : ∀ (a cur r : List UInt8), (cur.head? = some 34 ∨ 32 ∉ a) → partsG cur (a ++ r) = partsG (cur ++ a) r
  | [], cur, r, _ => by simp
  | c :: a, cur, r, h => by
    rw [List.cons_append, partsG, if_neg, parts_run a (cur ++ [c]) r, List.append_assoc]
    · rfl
    · rcases h with h | h
      · left
        cases cur with
        | nil => cases h
        | cons d cur => exact h
      · exact .inr fun e => h (List.Mem.tail _ e)
    · rintro ⟨rfl, h2⟩
      rcases h with h | h
      · exact h2 h
      · exact h (List.Mem.head _)
/-- a part that can be told from those behind it -/
def plainP (p : List UInt8) : Prop := 32 ∉ p ∧ p.head? ≠ some 34
theorem parts_plain : ∀ (l : List (List UInt8)) (q : List UInt8), (∀ p ∈ l, plainP p) → (plainP q ∨ q.head? = some 34) → partsR (joinS (l ++ [q])) = l ++ [q]
  | [], q, _, hq => by
    unfold partsR
    rw [List.nil_append, joinS]
    have := parts_run q [] []
    rcases hq with hq | hq
    · have := this (.inr hq.1)
      simpa [partsG] using this
    · cases q with
      | nil => cases hq
      | cons c q =>
        obtain rfl : c = 34 := by simpa using hq
        have := parts_run q [34] [] (.inl rfl)
        rw [partsG, if_neg (by simp)]
        simpa [partsG] using this
  | p :: l, q, h, hq => by
    have ih := parts_plain l q (fun r hr => h r (List.Mem.tail _ hr)) hq
    obtain ⟨h1, h2⟩ := h p (List.Mem.head _)
    have e : joinS (p :: l ++ [q]) = p ++ 32 :: joinS (l ++ [q]) := by
      cases hl : l ++ [q] with
      | nil => simp at hl
      | cons r l' => rw [List.cons_append, hl, joinS]
    unfold partsR at ih ⊢
    rw [e, parts_run p [] _ (.inr h1), List.nil_append, partsG, if_pos ⟨rfl, h2⟩, ih]
    rfl
/-- a number's text, as the document reads it -/
def digP (l : List UInt8) : Prop := ∀ b ∈ l, 48 ≤ b.toNat ∧ b.toNat ≤ 57
instance (l : List UInt8) : Decidable (digP l) := inferInstanceAs (Decidable (∀ b ∈ l, _))
def tailN (s : List UInt8) : List UInt8 := if s.head? = some 45 then s.drop 1 else s
def numR (s : List UInt8) : Option Int := if s = [] ∨ 11 < s.length ∨ ¬digP (tailN s) then none else if Lib.itoa (valI s) = s ∧ valI s ≤ most then some (valI s) else none
theorem val_lt : ∀ l : List UInt8, digP l → valD l < 10 ^ l.length := by
  intro l
  induction hn : l.length generalizing l with
  | zero =>
    intro _
    rw [List.eq_nil_of_length_eq_zero hn]
    decide
  | succ n ih =>
    intro h
    have hne : l ≠ [] := by rintro rfl; cases hn
    obtain ⟨m, b, rfl⟩ : ∃ m b, l = m ++ [b] := ⟨l.dropLast, l.getLast hne, (List.dropLast_concat_getLast hne).symm⟩
    rw [val_snoc]
    have := ih m (by simpa using hn) fun c hc => h c (by simp [hc])
    have hb := h b (by simp)
    rw [Nat.pow_succ]
    omega
theorem val_neg_range {s : List UInt8} (h : s.length ≤ 11) (hd : digP (tailN s)) (hi : Lib.itoa (valI s) = s) : -most ≤ valI s := by
  unfold valI tailN at *
  split
  · rename_i hc
    rw [if_pos hc] at hd
    have := val_lt _ hd
    have h1 : (s.drop 1).length ≤ 10 := by simp; omega
    have h2 : 10 ^ (s.drop 1).length ≤ 10 ^ 10 := Nat.pow_le_pow_right (by omega) h1
    unfold most
    have : (10 : Nat) ^ 10 = 10000000000 := by decide
    omega
  · unfold most; omega
theorem itoa_dig (n : Int) : digP (tailN (Lib.itoa n)) := by
  have hh := itoa_head n
  unfold tailN
  by_cases h : n < 0
  · rw [if_pos (hh.2 h)]
    unfold Lib.itoa
    rw [if_pos h]
    exact dd_all _
  · rw [if_neg fun e => h (hh.1 e)]
    unfold Lib.itoa
    rw [if_neg h]
    exact dd_all _
theorem numR_eq (s : List UInt8) : numR s = numO s := by
  unfold numR
  split
  · rename_i h
    cases hn : numO s with
    | none => rfl
    | some n =>
      obtain ⟨rfl, hm⟩ := numO_iff.1 hn
      rcases h with h | h | h
      · exact absurd h (itoa_ne n)
      · have := itoa_len hm; omega
      · exact absurd (itoa_dig n) h
  · rename_i h
    have h3 : digP (tailN s) := Decidable.byContradiction fun e => h (.inr (.inr e))
    have h2 : ¬11 < s.length := fun e => h (.inr (.inl e))
    unfold numO inMost
    by_cases hi : Lib.itoa (valI s) = s ∧ valI s ≤ most
    · rw [if_pos hi, if_pos ⟨hi.1, val_neg_range (by omega) h3 hi.1, hi.2⟩]
    · rw [if_neg hi, if_neg fun e => hi ⟨e.1, e.2.2⟩]
/-- a quoted text, read loosely -/
def unqG : List UInt8 → Option (List UInt8)
  | [] => some []
  | c :: t =>
    if c = 34 then none
    else if c ≠ 92 then (unqG t).map (c :: ·)
    else match t with
      | [] => none
      | d :: u =>
        if d = 34 ∨ d = 92 then (unqG u).map (d :: ·)
        else if d = 110 then (unqG u).map (10 :: ·)
        else if d = 120 then match u with
          | a :: b :: v => match pairS a b with
            | none => none
            | some x => (unqG v).map (x :: ·)
          | _ => none
        else none
theorem unqG_of : ∀ (s l : List UInt8), unqS s = some l → unqG s = some l
  | [], l, h => by
    rw [unqS] at h
    rw [unqG]
    exact h
  | c :: t, l, h => by
    rw [unqS.eq_def] at h
    rw [unqG.eq_def]
    dsimp only at h ⊢
    split at h
    · cases h
    · rename_i h1
      rw [if_neg fun e => h1 (.inl e)]
      split at h
      · rename_i h2
        rw [if_pos h2]
        cases hu : unqS t with
        | none => rw [hu] at h; cases h
        | some l' => rw [hu] at h; rw [unqG_of t l' hu]; exact h
      · rename_i h2
        rw [if_neg h2]
        split at h
        · cases h
        · rename_i d u
          dsimp only
          split at h
          · rename_i h3
            rw [if_pos h3]
            cases hu : unqS u with
            | none => rw [hu] at h; cases h
            | some l' => rw [hu] at h; rw [unqG_of u l' hu]; exact h
          · rename_i h3
            rw [if_neg h3]
            split at h
            · rename_i h4
              rw [if_pos h4]
              cases hu : unqS u with
              | none => rw [hu] at h; cases h
              | some l' => rw [hu] at h; rw [unqG_of u l' hu]; exact h
            · rename_i h4
              rw [if_neg h4]
              split at h
              · rename_i h5
                rw [if_pos h5]
                split at h
                · rename_i a b v
                  dsimp only
                  split at h
                  · cases h
                  · rename_i x hx
                    split at h
                    · cases h
                    · cases hu : unqS v with
                      | none => rw [hu] at h; cases h
                      | some l' => rw [hu] at h; rw [hx]; dsimp only; rw [unqG_of v l' hu]; exact h
                · cases h
              · cases h
/-- a quoted text, as the document reads it -/
def unqR (p : List UInt8) : Option (List UInt8) :=
  if p.length < 3 ∨ p.head? ≠ some 34 ∨ p.getLast? ≠ some 34 then none else
  match unqG (p.dropLast.drop 1) with
  | none => none
  | some l => if quoS l = p then some l else none
theorem unqR_iff {p l : List UInt8} : unqR p = some l ↔ p = quoS l ∧ l ≠ [] := by
  unfold unqR
  constructor
  · intro h
    split at h
    · cases h
    · rename_i hc
      split at h
      · cases h
      · rename_i m hm
        split at h
        · rename_i hq
          cases h
          refine ⟨hq.symm, ?_⟩
          rintro rfl
          rw [← hq] at hc
          exact hc (.inl (by decide))
        · cases h
  · rintro ⟨rfl, hl⟩
    have ht := txt_full hl
    unfold txtS at ht
    split at ht
    · rename_i hc
      rw [if_neg (by rintro (h | h | h); omega; exact h rfl; exact h hc.1), unqG_of _ _ ht]
      dsimp only
      rw [if_pos rfl]
    · cases ht
/-- the parts behind the word, one by one: how far, numbers, bytes, text -/
def stepR (q : Nat × List Int × List UInt8 × List UInt8) (p : List UInt8) : Option (Nat × List Int × List UInt8 × List UInt8) :=
  if p = [] then none
  else if p.head? = some 35 ∧ q.1 < 1 then (bytsS (p.drop 1)).map fun b => (1, q.2.1, b, q.2.2.2)
  else if p.head? = some 34 ∧ q.1 < 2 then (unqR p).map fun t => (2, q.2.1, q.2.2.1, t)
  else if q.1 = 0 then (numR p).map fun n => (0, q.2.1 ++ [n], q.2.2)
  else none
def foldR : Nat × List Int × List UInt8 × List UInt8 → List (List UInt8) → Option (Nat × List Int × List UInt8 × List UInt8)
  | q, [] => some q
  | q, p :: l => match stepR q p with
    | none => none
    | some q' => foldR q' l
def readR (s : List UInt8) : Option Cl :=
  if idxW ((partsR s).headD []) wdL ≤ 0 then none else
  match foldR (0, [], [], []) ((partsR s).drop 1) with
  | none => none
  | some q => ifOk ⟨idxW ((partsR s).headD []) wdL, q.2.1, q.2.2.1, q.2.2.2⟩
theorem fold_2 : ∀ {l : List (List UInt8)} {is : List Int} {bs tx : List UInt8} {q}, foldR (2, is, bs, tx) l = some q → l = [] ∧ q = (2, is, bs, tx)
  | [], _, _, _, _, h => by
    rw [foldR] at h
    exact ⟨rfl, (Option.some.inj h).symm⟩
  | p :: l, is, bs, tx, q, h => by
    rw [foldR, show stepR (2, is, bs, tx) p = none by unfold stepR; split <;> simp] at h
    cases h
theorem fold_1 : ∀ {l : List (List UInt8)} {is : List Int} {bs : List UInt8} {q}, foldR (1, is, bs, []) l = some q → ∃ tx, l = (if tx = [] then [] else [quoS tx]) ∧ q.2 = (is, bs, tx)
  | [], is, bs, q, h => by
    rw [foldR] at h
    cases h
    exact ⟨[], rfl, rfl⟩
  | p :: l, is, bs, q, h => by
    rw [foldR] at h
    unfold stepR at h
    by_cases h0 : p = []
    · rw [if_pos h0] at h; cases h
    · rw [if_neg h0, if_neg (by simp)] at h
      by_cases h1 : p.head? = some 34 ∧ 1 < 2
      · rw [if_pos h1] at h
        dsimp only at h
        cases hu : unqR p with
        | none => rw [hu] at h; cases h
        | some t =>
          rw [hu] at h
          obtain ⟨h2, h3⟩ := fold_2 h
          obtain ⟨h4, h5⟩ := unqR_iff.1 hu
          exact ⟨t, by rw [if_neg h5, h2, h4], by rw [h3]⟩
      · rw [if_neg h1, if_neg (by simp)] at h
        cases h
theorem fold_0 : ∀ {l : List (List UInt8)} {is : List Int} {q}, foldR (0, is, [], []) l = some q → ∃ js bs tx, l = js.map Lib.itoa ++ tailP bs tx ∧ (∀ n ∈ js, inMost n) ∧ q.2 = (is ++ js, bs, tx)
  | [], is, q, h => by
    rw [foldR] at h
    cases h
    exact ⟨[], [], [], rfl, by simp, by simp⟩
  | p :: l, is, q, h => by
    rw [foldR] at h
    unfold stepR at h
    by_cases h0 : p = []
    · rw [if_pos h0] at h; cases h
    · rw [if_neg h0] at h
      by_cases h1 : p.head? = some 35 ∧ 0 < 1
      · rw [if_pos h1] at h
        dsimp only at h
        cases hb : bytsS (p.drop 1) with
        | none => rw [hb] at h; cases h
        | some b =>
          rw [hb] at h
          obtain ⟨tx, h2, h3⟩ := fold_1 h
          obtain ⟨h4, h5⟩ := byts_sound hb
          refine ⟨[], b, tx, ?_, by simp, by rw [h3]; simp⟩
          unfold tailP
          rw [if_neg h5, h2, ← h4]
          have hp : p = 35 :: p.drop 1 := by
            cases p with
            | nil => exact absurd rfl h0
            | cons c p => simp at h1; rw [h1]; rfl
          rw [← hp]
          rfl
      · rw [if_neg h1] at h
        by_cases h2 : p.head? = some 34 ∧ 0 < 2
        · rw [if_pos h2] at h
          dsimp only at h
          cases hu : unqR p with
          | none => rw [hu] at h; cases h
          | some t =>
            rw [hu] at h
            obtain ⟨h3, h4⟩ := fold_2 h
            obtain ⟨h5, h6⟩ := unqR_iff.1 hu
            refine ⟨[], [], t, ?_, by simp, by rw [h4]; simp⟩
            unfold tailP
            rw [if_pos rfl, if_neg h6, h3, h5]
            rfl
        · rw [if_neg h2, if_pos rfl] at h
          dsimp only at h
          rw [numR_eq] at h
          cases hn : numO p with
          | none => rw [hn] at h; cases h
          | some n =>
            rw [hn] at h
            obtain ⟨js, bs, tx, h3, h4, h5⟩ := fold_0 h
            obtain ⟨h6, h7⟩ := numO_iff.1 hn
            refine ⟨n :: js, bs, tx, by rw [h3, h6]; rfl, fun m hm => ?_, by rw [h5]; simp⟩
            rcases List.mem_cons.1 hm with rfl | hm
            · exact h7
            · exact h4 m hm
theorem fold_full : ∀ (js : List Int) (is : List Int) (bs tx : List UInt8), (∀ n ∈ js, inMost n) → ∃ k, foldR (0, is, [], []) (js.map Lib.itoa ++ tailP bs tx) = some (k, is ++ js, bs, tx)
  | n :: js, is, bs, tx, h => by
    obtain ⟨k, hk⟩ := fold_full js (is ++ [n]) bs tx fun m hm => h m (List.Mem.tail _ hm)
    refine ⟨k, ?_⟩
    rw [List.map_cons, List.cons_append, foldR]
    have hs : stepR (0, is, [], []) (Lib.itoa n) = some (0, is ++ [n], [], []) := by
      have hst := stop_itoa n []
      rw [List.append_nil] at hst
      unfold stopR at hst
      simp only [not_or] at hst
      unfold stepR
      rw [if_neg hst.1, if_neg fun e => hst.2.1 e.1, if_neg fun e => hst.2.2 e.1, if_pos rfl, numR_eq, num_itoa (h n (List.Mem.head _))]
      rfl
    rw [hs]
    dsimp only
    rw [hk, List.append_assoc]
    rfl
  | [], is, bs, tx, _ => by
    have hq : ∀ t : List UInt8, t ≠ [] → ∀ k is bs, k < 2 → stepR (k, is, bs, []) (quoS t) = some (2, is, bs, t) := by
      intro t ht k is bs hk
      unfold stepR
      rw [if_neg (by simp [quoS]), if_neg (by simp [quoS]), if_pos ⟨rfl, hk⟩, unqR_iff.2 ⟨rfl, ht⟩]
      rfl
    rw [List.map_nil, List.nil_append, List.append_nil]
    unfold tailP
    by_cases hb : bs = []
    · subst hb
      by_cases ht : tx = []
      · subst ht
        exact ⟨0, rfl⟩
      · refine ⟨2, ?_⟩
        rw [if_pos rfl, if_neg ht, List.nil_append, foldR, hq tx ht 0 is [] (by omega)]
        rfl
    · have h1 : stepR (0, is, [], []) (35 :: hexS bs) = some (1, is, bs, []) := by
        unfold stepR
        rw [if_neg (by simp), if_pos ⟨rfl, by show 0 < 1; omega⟩, List.drop_succ_cons, List.drop_zero, bytsS_full hb]
        rfl
      rw [if_neg hb, List.cons_append, List.nil_append, foldR, h1]
      by_cases ht : tx = []
      · subst ht
        exact ⟨1, rfl⟩
      · refine ⟨2, ?_⟩
        rw [if_neg ht]
        dsimp only
        rw [foldR, hq tx ht 1 is bs (by omega)]
        rfl
theorem parts_lineS {x : Cl} (h : okC x) : partsR (lineS x) = wdS x.op :: (x.is.map Lib.itoa ++ tailP x.bs x.tx) := by
  have hwb := wd_bytes _ (wdS_mem h.1)
  have hwp : plainP (wdS x.op) := ⟨hwb.1, fun e => hwb.2.1 (List.mem_of_head? e)⟩
  have hip : ∀ n : Int, plainP (Lib.itoa n) := fun n => ⟨(itoa_no n).1, fun e => (itoa_no n).2.1 (List.mem_of_head? e)⟩
  have hbp : plainP (35 :: hexS x.bs) := ⟨by
    simp only [List.mem_cons, not_or]
    exact ⟨by decide, fun e => (hexS_byte x.bs 32 e).1 rfl⟩, by simp⟩
  rw [line_join, show ptsS x.is x.bs x.tx = x.is.map Lib.itoa ++ tailP x.bs x.tx by unfold ptsS tailP; rw [List.append_assoc]]
  have hall : ∀ p ∈ wdS x.op :: (x.is.map Lib.itoa ++ (if x.bs = [] then [] else [35 :: hexS x.bs])), plainP p := by
    intro p hp
    rcases List.mem_cons.1 hp with rfl | hp
    · exact hwp
    · rcases List.mem_append.1 hp with hp | hp
      · obtain ⟨n, _, rfl⟩ := List.mem_map.1 hp
        exact hip n
      · split at hp
        · cases hp
        · rw [List.mem_singleton] at hp; rw [hp]; exact hbp
  unfold tailP
  by_cases ht : x.tx = []
  · rw [if_pos ht, List.append_nil]
    have hne : wdS x.op :: (x.is.map Lib.itoa ++ (if x.bs = [] then [] else [35 :: hexS x.bs])) ≠ [] := by simp
    have e := (List.dropLast_concat_getLast hne).symm
    rw [e]
    refine parts_plain _ _ (fun p hp => hall p ?_) (.inl (hall _ (List.getLast_mem hne)))
    exact List.dropLast_subset _ hp
  · rw [if_neg ht, ← List.append_assoc, ← List.cons_append]
    exact parts_plain _ _ hall (.inr rfl)
theorem read_iff {s : List UInt8} {x : Cl} : readR s = some x ↔ okC x ∧ s = lineS x := by
  constructor
  · intro h
    unfold readR at h
    split at h
    · cases h
    · rename_i hi
      have hw := idxW_wd (w := (partsR s).headD []) (by omega)
      have hj := parts_join s []
      rw [List.nil_append] at hj
      have hne := parts_ne s []
      cases hp : partsR s with
      | nil => exact absurd hp hne
      | cons w l =>
        have hp2 : partsG [] s = w :: l := hp
        rw [hp2] at hj
        rw [hp] at h hw
        simp only [List.headD_cons, List.drop_succ_cons, List.drop_zero] at h hw
        cases hf : foldR (0, [], [], []) l with
        | none => rw [hf] at h; cases h
        | some q =>
          rw [hf] at h
          dsimp only at h
          obtain ⟨js, bs, tx, h1, h2, h3⟩ := fold_0 hf
          rw [List.nil_append] at h3
          obtain ⟨k, q2⟩ := q
          dsimp only at h3
          subst h3
          dsimp only at h
          · obtain ⟨hok, rfl⟩ := ifOk_iff.1 h
            refine ⟨hok, ?_⟩
            rw [line_join]
            dsimp only
            rw [hw, show ptsS js bs tx = js.map Lib.itoa ++ tailP bs tx by unfold ptsS tailP; rw [List.append_assoc], ← h1, hj]
  · rintro ⟨h, rfl⟩
    unfold readR
    rw [parts_lineS h]
    simp only [List.headD_cons, List.drop_succ_cons, List.drop_zero]
    obtain ⟨k, hk⟩ := fold_full x.is [] x.bs x.tx h.2.2.2.2
    rw [wd_at h.1, if_neg (by have := h.1; omega), hk]
    exact ifOk_iff.2 ⟨h, rfl⟩
theorem read_call (s : List UInt8) : readR s = callS s := by
  cases h : callS s with
  | some x => exact read_iff.2 (call_iff.1 h)
  | none =>
    cases h2 : readR s with
    | none => rfl
    | some x => rw [call_iff.2 (read_iff.1 h2)] at h; cases h
end Go.Proofs.YtdnicbbandbdbaaDoor
