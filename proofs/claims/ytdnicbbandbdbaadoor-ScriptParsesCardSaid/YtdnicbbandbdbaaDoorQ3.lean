/- A line is read as the command that it says, and no other: in plain Lean. No condition. -/
import Derived.Test.YtdnicbbandbdbaaDoorQ2
namespace Go.Proofs.YtdnicbbandbdbaaDoor
theorem itoa_no (n : Int) : 32 ∉ Lib.itoa n ∧ 34 ∉ Lib.itoa n ∧ 35 ∉ Lib.itoa n ∧ 10 ∉ Lib.itoa n := by
  refine ⟨fun h => ?_, fun h => ?_, fun h => ?_, fun h => ?_⟩ <;> rcases itoa_byte n _ h with e | e <;> revert e <;> decide
/-- what numbers' parts begin with -/
theorem stop_itoa (n : Int) (r : List UInt8) : ¬stopR (Lib.itoa n ++ r) := by
  obtain ⟨h32, h34, h35, _⟩ := itoa_no n
  have hne := itoa_ne n
  cases hi : Lib.itoa n with
  | nil => exact absurd hi hne
  | cons c l =>
    rw [hi] at h34 h35
    unfold stopR
    simp only [List.cons_append, List.head?_cons, Option.some.injEq]
    rintro (h | rfl | rfl)
    · cases h
    · exact h35 (List.Mem.head _)
    · exact h34 (List.Mem.head _)
theorem num_itoa {n : Int} (h : inMost n) : numO (Lib.itoa n) = some n := numO_iff.2 ⟨rfl, h⟩
/-- parts of bytes, of a text -/
theorem numO_nil : numO [] = none := by
  cases h : numO [] with
  | none => rfl
  | some n => exact absurd rfl (numO_ne h)
theorem ints_blank : intsS [32] = none := ints_none (by decide) (by rw [show (wordR [32]).1 = [] by decide]; exact numO_nil)
def tailP (bs tx : List UInt8) : List (List UInt8) := (if bs = [] then [] else [35 :: hexS bs]) ++ (if tx = [] then [] else [quoS tx])
theorem tail_stop (bs tx : List UInt8) : stopR (joinS (tailP bs tx)) := by
  unfold tailP stopR
  split
  · split
    · exact .inl rfl
    · exact .inr (.inr rfl)
  · split
    · exact .inr (.inl rfl)
    · exact .inr (.inl rfl)
theorem ints_full : ∀ (is : List Int) (bs tx : List UInt8), (∀ n ∈ is, inMost n) → intsS (joinS (is.map Lib.itoa ++ tailP bs tx)) = some (is, joinS (tailP bs tx))
  | [], bs, tx, _ => ints_stop (tail_stop bs tx)
  | n :: is, bs, tx, h => by
    have hn := h n (List.Mem.head _)
    have ih := ints_full is bs tx fun m hm => h m (List.Mem.tail _ hm)
    rw [List.map_cons, List.cons_append]
    obtain ⟨h32, _⟩ := itoa_no n
    have hno : ¬stopR (joinS (Lib.itoa n :: (is.map Lib.itoa ++ tailP bs tx))) := by
      rw [join_flat]
      exact stop_itoa n _
    have hw : wordR (joinS (Lib.itoa n :: (is.map Lib.itoa ++ tailP bs tx))) = (Lib.itoa n, joinS (is.map Lib.itoa ++ tailP bs tx)) := by
      cases hp : is.map Lib.itoa ++ tailP bs tx with
      | nil => exact word_last h32
      | cons p l =>
        rw [joinS]
        refine word_app h32 (join_ne fun e => ?_)
        subst e
        cases is with
        | nil =>
          simp only [List.map_nil, List.nil_append, tailP] at hp
          split at hp
          · split at hp
            · cases hp
            · simp [quoS] at hp
          · simp at hp
        | cons m is =>
          simp only [List.map_cons, List.cons_append, List.cons.injEq] at hp
          exact itoa_ne m hp.1
    rw [ints_some hno (n := n) (by rw [hw]; exact num_itoa hn), hw, ih]
    rfl
theorem bytsS_full {bs : List UInt8} (h : bs ≠ []) : bytsS (hexS bs) = some bs := by
  unfold bytsS
  have hl := hexS_len bs
  rw [if_neg, unhex_iff.2 rfl]
  rintro (e | e)
  · rw [e] at hl
    have : 0 < bs.length := List.length_pos_iff.2 h
    simp at hl
    omega
  · omega
theorem quoB_no (c : UInt8) : 10 ∉ quoB c := by
  unfold quoB
  split
  · rename_i h
    rcases h with rfl | rfl <;> decide
  · split
    · decide
    · rename_i h
      split
      · have := c.toNat_lt
        have h1 := hexD_byte (c.toNat / 16) (by omega)
        have h2 := hexD_byte (c.toNat % 16) (by omega)
        simp only [hexB, List.mem_cons, List.not_mem_nil, or_false, not_or]
        exact ⟨by decide, by decide, h1.2.2.symm, h2.2.2.symm⟩
      · simpa using fun e : 10 = c => h e.symm
theorem quoB_ne (c : UInt8) : quoB c ≠ [] := by
  unfold quoB
  split
  · simp
  · split
    · simp
    · split <;> simp
theorem quo_last (tx : List UInt8) : (quoS tx).getLast? = some 34 := by
  unfold quoS
  rw [show 34 :: (tx.flatMap quoB ++ [34]) = (34 :: tx.flatMap quoB) ++ [34] from rfl, List.getLast?_append]
  rfl
theorem txt_full {tx : List UInt8} (h : tx ≠ []) : txtS (quoS tx) = some tx := by
  have hb : ((quoS tx).dropLast).drop 1 = tx.flatMap quoB := by
    unfold quoS
    rw [show 34 :: (tx.flatMap quoB ++ [34]) = (34 :: tx.flatMap quoB) ++ [34] from rfl, List.dropLast_concat]
    rfl
  unfold txtS
  rw [hb, if_pos, unq_full]
  refine ⟨quo_last tx, ?_⟩
  cases tx with
  | nil => exact absurd rfl h
  | cons c t =>
    have : 0 < (quoB c).length := List.length_pos_iff.2 (quoB_ne c)
    unfold quoS
    simp only [List.flatMap_cons, List.length_cons, List.length_append, List.length_singleton]
    omega
theorem call_full {x : Cl} (h : okC x) : callS (lineS x) = some x := by
  obtain ⟨op, is, bs, tx⟩ := x
  obtain ⟨h1, h2, h3, h4, h5⟩ := h
  dsimp only at h1 h2 h3 h4 h5
  have hok : okC ⟨op, is, bs, tx⟩ := ⟨h1, h2, h3, h4, h5⟩
  have hwb := wd_bytes _ (wdS_mem h1)
  have hp : ptsS is bs tx = is.map Lib.itoa ++ tailP bs tx := by unfold ptsS tailP; rw [List.append_assoc]
  have hall : ∀ p ∈ is.map Lib.itoa ++ tailP bs tx, p ≠ [] := by
    intro p hp
    rcases List.mem_append.1 hp with hp | hp
    · obtain ⟨n, _, rfl⟩ := List.mem_map.1 hp
      exact itoa_ne n
    · unfold tailP at hp
      rcases List.mem_append.1 hp with hp | hp
      · split at hp
        · cases hp
        · rw [List.mem_singleton] at hp; rw [hp]; simp
      · split at hp
        · cases hp
        · rw [List.mem_singleton] at hp; rw [hp]; simp [quoS]
  have hw : wordR (lineS ⟨op, is, bs, tx⟩) = (wdS op, joinS (is.map Lib.itoa ++ tailP bs tx)) := by
    rw [line_join]
    dsimp only
    rw [hp]
    cases hl : is.map Lib.itoa ++ tailP bs tx with
    | nil => exact word_last hwb.1
    | cons p l =>
      rw [joinS]
      exact word_app hwb.1 (join_ne (hall p (by rw [hl]; exact List.Mem.head _)))
  unfold callS
  rw [hw]
  dsimp only
  rw [wd_at h1, if_neg (by omega), ints_full is bs tx h5]
  dsimp only
  have hmid : (if (joinS (tailP bs tx)).head? = some 35 then (bytsS ((wordR (joinS (tailP bs tx))).1.drop 1)).map fun b => (b, (wordR (joinS (tailP bs tx))).2) else some ([], joinS (tailP bs tx))) =
      some (bs, if tx = [] then [] else quoS tx) := by
    have h32 : 32 ∉ 35 :: hexS bs := by
      simp only [List.mem_cons, not_or]
      exact ⟨by decide, fun e => (hexS_byte bs 32 e).1 rfl⟩
    by_cases hb : bs = []
    · subst hb
      by_cases ht : tx = []
      · subst ht; rfl
      · rw [if_neg ht, show tailP [] tx = [quoS tx] by unfold tailP; rw [if_pos rfl, if_neg ht]; rfl, joinS, if_neg (by simp [quoS])]
    · by_cases ht : tx = []
      · subst ht
        rw [if_pos rfl, show tailP bs [] = [35 :: hexS bs] by unfold tailP; rw [if_neg hb, if_pos rfl]; rfl, joinS, List.head?_cons, if_pos rfl, word_last h32]
        dsimp only
        rw [List.drop_succ_cons, List.drop_zero, bytsS_full hb]
        rfl
      · rw [if_neg ht, show tailP bs tx = [35 :: hexS bs, quoS tx] by unfold tailP; rw [if_neg hb, if_neg ht]; rfl, joinS, joinS, List.cons_append, List.head?_cons, if_pos rfl, ← List.cons_append, word_app h32 (by simp [quoS])]
        dsimp only
        rw [List.drop_succ_cons, List.drop_zero, bytsS_full hb]
        rfl
  rw [hmid]
  dsimp only
  by_cases ht : tx = []
  · subst ht
    rw [if_pos rfl, if_pos rfl]
    exact ifOk_iff.2 ⟨hok, rfl⟩
  · rw [if_neg ht, if_neg (by simp [quoS]), if_pos (by simp [quoS]), txt_full ht]
    exact ifOk_iff.2 ⟨hok, rfl⟩
/-- .. and the other way -/
theorem join_snoc (w : List UInt8) (r : List UInt8) (l : List (List UInt8)) (h : r = joinS l) (hn : r ≠ []) : w ++ 32 :: r = joinS (w :: l) := by
  subst h
  cases l with
  | nil => exact absurd rfl hn
  | cons p l => rfl
theorem ints_sound : ∀ (f : Nat) (r : List UInt8), r.length ≤ f → ∀ is q, intsS r = some (is, q) → (∀ n ∈ is, inMost n) ∧ stopR q ∧ (q = [] → r = joinS (is.map Lib.itoa)) ∧ (q ≠ [] → r = is.flatMap (fun n => Lib.itoa n ++ [32]) ++ q)
  | f, r, hf, is, q, h => by
    by_cases hs : stopR r
    · rw [ints_stop hs] at h
      cases h
      exact ⟨by simp, hs, fun h => h, fun _ => rfl⟩
    · cases hn : numO (wordR r).1 with
      | none => rw [ints_none hs hn] at h; cases h
      | some n =>
        rw [ints_some hs hn] at h
        have hlt := word_short (numO_ne hn)
        cases hi : intsS (wordR r).2 with
        | none => rw [hi] at h; cases h
        | some p =>
          rw [hi] at h
          obtain ⟨is', q'⟩ := p
          cases h
          cases f with
          | zero => omega
          | succ f =>
            obtain ⟨h1, h2, h3, h4⟩ := ints_sound f (wordR r).2 (by omega) is' q' hi
            obtain ⟨hw, hm⟩ := numO_iff.1 hn
            refine ⟨fun m hm' => ?_, h2, fun hq => ?_, fun hq => ?_⟩
            · rcases List.mem_cons.1 hm' with rfl | hm'
              · exact hm
              · exact h1 m hm'
            · have h3 := h3 hq
              rw [List.map_cons]
              rcases (word_sound r).2 with ⟨ha, hb⟩ | ⟨ha, hb⟩ | ⟨ha, hb⟩
              · rw [hb] at h3
                have : is' = [] := by
                  cases is' with
                  | nil => rfl
                  | cons m is' =>
                    rw [List.map_cons] at h3
                    exact absurd h3.symm (join_ne (itoa_ne m))
                subst this
                rw [ha, hw]
                rfl
              · -- a blank alone is no number
                exfalso
                rw [hb] at hi
                rw [ints_blank] at hi
                cases hi
              · rw [ha, hw]
                exact join_snoc _ _ _ h3 hb
            · have h4 := h4 hq
              rw [List.flatMap_cons]
              rcases (word_sound r).2 with ⟨ha, hb⟩ | ⟨ha, hb⟩ | ⟨ha, hb⟩
              · rw [hb] at h4
                exact absurd (List.append_eq_nil_iff.1 h4.symm).2 hq
              · exfalso
                rw [hb] at hi
                rw [ints_blank] at hi
                cases hi
              · rw [ha, hw, h4]
                simp
theorem txt_sound {r tx : List UInt8} (hr : r.head? = some 34) (h : txtS r = some tx) : r = quoS tx ∧ tx ≠ [] := by
  unfold txtS at h
  split at h
  · rename_i hc
    have hb := unq_sound _ _ h
    obtain ⟨c1, c2⟩ := hc
    cases r with
    | nil => cases hr
    | cons c r =>
      obtain rfl : c = 34 := by simpa using hr
      have hne : r ≠ [] := by rintro rfl; simp at c2
      rw [List.dropLast_cons_of_ne_nil hne, List.drop_succ_cons, List.drop_zero] at hb
      have hl : r.getLast? = some 34 := by
        rw [List.getLast?_cons] at c1
        cases hx : r.getLast? with
        | none => exact absurd (List.getLast?_eq_none_iff.1 hx) hne
        | some y => rw [hx] at c1; exact c1
      have hr2 : r = r.dropLast ++ [34] := by
        have := List.dropLast_concat_getLast hne
        rw [List.getLast?_eq_some_getLast hne] at hl
        have e : r.getLast hne = 34 := by simpa using hl
        rw [e] at this
        exact this.symm
      refine ⟨by unfold quoS; rw [← hb, ← hr2], ?_⟩
      rintro rfl
      simp only [List.flatMap_nil] at hb
      rw [hb] at hr2
      rw [hr2] at c2
      simp at c2
  · cases h
theorem byts_sound {s bs : List UInt8} (h : bytsS s = some bs) : s = hexS bs ∧ bs ≠ [] := by
  unfold bytsS at h
  split at h
  · cases h
  · rename_i hc
    have := unhex_iff.1 h
    refine ⟨this, ?_⟩
    rintro rfl
    exact hc (.inl this)
theorem call_sound {l : List UInt8} {x : Cl} (h : callS l = some x) : okC x ∧ l = lineS x := by
  unfold callS at h
  split at h
  · cases h
  · rename_i hi
    have hw := idxW_wd (w := (wordR l).1) (by omega)
    cases hn : intsS (wordR l).2 with
    | none => rw [hn] at h; cases h
    | some p =>
      obtain ⟨is, r⟩ := p
      rw [hn] at h
      dsimp only at h
      obtain ⟨h1, h2, h3, h4⟩ := ints_sound _ _ (Nat.le_refl _) is r hn
      obtain ⟨ws, wq⟩ := word_sound l
      -- the line's first word, then what is left
      have hl : (wordR l).2 = [] ∧ l = (wordR l).1 ∨ (wordR l).2 ≠ [] ∧ l = (wordR l).1 ++ 32 :: (wordR l).2 := by
        rcases wq with ⟨ha, hb⟩ | ⟨ha, hb⟩ | ⟨ha, hb⟩
        · exact .inl ⟨hb, ha⟩
        · exfalso
          rw [hb] at hn
          rw [ints_blank] at hn
          cases hn
        · exact .inr ⟨hb, ha⟩
      have key : ∀ bs tx, (∀ q : List UInt8, q = joinS (tailP bs tx) → r = q → (is.map Lib.itoa ++ tailP bs tx = [] → (wordR l).2 = []) → l = joinS ((wordR l).1 :: (is.map Lib.itoa ++ tailP bs tx))) := by
        intro bs tx q hq hr h0
        have hr2 : (wordR l).2 = joinS (is.map Lib.itoa ++ tailP bs tx) := by
          by_cases hr0 : r = []
          · have hp : tailP bs tx = [] := by
              rw [hr0] at hr
              rw [← hr] at hq
              unfold tailP at hq ⊢
              split
              · split
                · rfl
                · rename_i hx hy; rw [if_pos hx, if_neg hy] at hq; simp [joinS, quoS] at hq
              · rename_i hx
                rw [if_neg hx] at hq
                exact absurd hq.symm (join_ne (by simp))
            rw [hp, List.append_nil]
            exact h3 hr0
          · rw [h4 hr0, hr, hq]
            clear h0 h1 h3 h4 hn h
            have hne : tailP bs tx ≠ [] := by
              intro e
              rw [e] at hq
              exact hr0 (by rw [hr, hq]; rfl)
            induction is with
            | nil => rfl
            | cons n is ih =>
              rw [List.map_cons, List.cons_append, List.flatMap_cons, List.append_assoc, ih]
              cases hp : is.map Lib.itoa ++ tailP bs tx with
              | nil => exact absurd (List.append_eq_nil_iff.1 hp).2 hne
              | cons p l => rw [joinS]; simp
        rcases hl with ⟨ha, hb⟩ | ⟨ha, hb⟩
        · have : is.map Lib.itoa ++ tailP bs tx = [] := by
            rw [ha] at hr2
            cases hp : is.map Lib.itoa ++ tailP bs tx with
            | nil => rfl
            | cons p l' =>
              rw [hp] at hr2
              exfalso
              refine absurd hr2.symm (join_ne fun e => ?_)
              subst e
              have : ([] : List UInt8) ∈ is.map Lib.itoa ++ tailP bs tx := by rw [hp]; exact List.Mem.head _
              rcases List.mem_append.1 this with h | h
              · obtain ⟨n, _, hn⟩ := List.mem_map.1 h
                exact itoa_ne n hn
              · unfold tailP at h
                rcases List.mem_append.1 h with h | h
                · split at h
                  · cases h
                  · simp at h
                · split at h
                  · cases h
                  · simp [quoS] at h
          rw [this]
          exact hb
        · rw [← join_snoc _ _ _ hr2 ha]
          exact hb
      have fin : ∀ bs tx, r = joinS (tailP bs tx) → ifOk ⟨idxW (wordR l).1 wdL, is, bs, tx⟩ = some x → okC x ∧ l = lineS x := by
        intro bs tx hr hx
        · obtain ⟨hok, rfl⟩ := ifOk_iff.1 hx
          refine ⟨hok, ?_⟩
          rw [line_join]
          dsimp only
          rw [hw, show ptsS is bs tx = is.map Lib.itoa ++ tailP bs tx by unfold ptsS tailP; rw [List.append_assoc]]
          refine key bs tx _ rfl hr fun e => ?_
          have e1 := (List.append_eq_nil_iff.1 e).1
          have e2 := (List.append_eq_nil_iff.1 e).2
          rw [e2] at hr
          have e3 : is = [] := by simpa using e1
          rw [h3 hr, e3]
          rfl
      split at h
      · cases h
      · rename_i bs q hb
        split at h
        · cases h
        · rename_i tx ht
          refine fin bs tx ?_ h
          -- the text
          have htail : (q = [] ∧ tx = []) ∨ (q = quoS tx ∧ tx ≠ []) := by
            split at ht
            · rename_i hq; cases ht; exact .inl ⟨hq, rfl⟩
            · split at ht
              · rename_i hq; exact .inr (txt_sound hq ht)
              · cases ht
          split at hb
          · rename_i h35
            cases hby : bytsS ((wordR r).1.drop 1) with
            | none => rw [hby] at hb; cases hb
            | some b =>
              rw [hby] at hb
              simp only [Option.map_some, Option.some.injEq, Prod.mk.injEq] at hb
              obtain ⟨rfl, hq⟩ := hb
              obtain ⟨hs1, hs2⟩ := byts_sound hby
              obtain ⟨wr1, wr2⟩ := word_sound r
              have hw35 : (wordR r).1 = 35 :: hexS b := by
                have : (wordR r).1.head? = some 35 := by
                  cases hwr : (wordR r).1 with
                  | nil =>
                    rw [hwr] at hs1
                    have := hexS_len b
                    rw [← hs1] at this
                    have : 0 < b.length := List.length_pos_iff.2 hs2
                    simp at *
                    omega
                  | cons c t =>
                    rw [hwr] at wr2
                    rcases wr2 with ⟨ha, _⟩ | ⟨ha, _⟩ | ⟨ha, _⟩ <;> (rw [ha] at h35; exact h35)
                cases hwr : (wordR r).1 with
                | nil => rw [hwr] at this; cases this
                | cons c t =>
                  rw [hwr] at this hs1
                  simp at this hs1
                  rw [this, hs1]
              unfold tailP
              rw [if_neg hs2]
              rcases wr2 with ⟨ha, hb⟩ | ⟨ha, hb⟩ | ⟨ha, hb⟩
              · rcases htail with ⟨_, rfl⟩ | ⟨hq2, htx⟩
                · rw [ha, hw35]; rfl
                · exfalso
                  rw [← hq, hb] at hq2
                  simp [quoS] at hq2
              · exfalso
                rw [hb] at hq
                rcases htail with ⟨hq2, _⟩ | ⟨hq2, _⟩
                · rw [← hq] at hq2; cases hq2
                · rw [← hq] at hq2; simp [quoS] at hq2
              · rcases htail with ⟨hq2, _⟩ | ⟨hq2, htx⟩
                · exact absurd (hq.trans hq2) hb
                · rw [if_neg htx]
                  show r = joinS [35 :: hexS b, quoS tx]
                  rw [joinS, joinS, ← hq2, ← hq, ← hw35]
                  exact ha
          · cases hb
            unfold tailP
            rw [if_pos rfl]
            rcases htail with ⟨h1, rfl⟩ | ⟨h1, h2⟩
            · rw [h1]; rfl
            · rw [if_neg h2, h1]; rfl
theorem call_iff {l : List UInt8} {x : Cl} : callS l = some x ↔ okC x ∧ l = lineS x := ⟨call_sound, fun ⟨h, e⟩ => by rw [e]; exact call_full h⟩
end Go.Proofs.YtdnicbbandbdbaaDoor
