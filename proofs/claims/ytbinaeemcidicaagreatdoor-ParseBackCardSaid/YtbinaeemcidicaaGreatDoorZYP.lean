/- The text of a tree: its tokens. In plain Lean. No condition. -/
import Derived.Test.YtbinaeemcidicaaGreatDoorZYM
import Derived.Test.YtbinaeemcidicaaGreatDoorZYH
import Derived.Test.YtbinaeemcidicaaGreatDoorZQI
import Derived.Test.YtbinaeemcidicaaGreatDoorZRB
import Derived.Test.YtbinaeemcidicaaGreatDoorZPM
import Derived.Test.YtbinaeemcidicaaGreatDoorZCut
import Derived.Test.YtbinaeemcidicaaGreatDoorZCn
import Derived.Test.YtbinaeemcidicaaGreatDoorZQP
import Derived.Test.YtbinaeemcidicaaGreatDoorZQJ
set_option maxHeartbeats 16000000
namespace Go.Proofs.YtbinaeemcidicaaGreatDoor
mutual
theorem rg_er : ∀ p : Pt, rgP p → rgP (erP p)
 | .mk kd ty tx nm pl ks, h => by
  rw [rgP] at h
  rw [erP, rgP]
  exact ⟨Int.le_refl 0, h.2.1, rg_erL ks h.2.2⟩
theorem rg_erL : ∀ l : List Pt, rgL l → rgL (erL l)
 | [], _ => by rw [erL, rgL]; trivial
 | p :: l, h => by
  rw [rgL] at h
  rw [erL, rgL]
  exact ⟨rg_er p h.1, rg_erL l h.2⟩
end
theorem rg_kid {kd : Int} {ty tx : List UInt8} {nm pl : Int} {ks : List Pt} (h : rgP (.mk kd ty tx nm pl ks)) : ∀ p ∈ ks, rgP p := by
 rw [rgP] at h
 exact (rgL_all ks).1 h.2.2
theorem rg_nm {kd : Int} {ty tx : List UInt8} {nm pl : Int} {ks : List Pt} (h : rgP (.mk kd ty tx nm pl ks)) : -2147483648 ≤ nm ∧ nm ≤ 2147483647 := by
 rw [rgP] at h
 exact h.2.1
theorem sid_lex {p : Pt} (h : LexOk (layT intS floS p)) : LexOk (sidT intS floS p) := by
 unfold sidT sidN
 split
 ·exact .cons Zj (.app h (.cons Zj .nil))
 ·exact h
theorem map_lex {l : List Pt} (h : ∀ p ∈ l, LexOk (layT intS floS p)) : ∀ K ∈ l.map (layT intS floS), LexOk K := fun K hK => by
 obtain ⟨p, hp, rfl⟩ := List.mem_map.1 hK
 exact h p hp
theorem E_lex {p : Pt} (h : WE p) : rgP p → LexOk (layT intS floS p) := by
 induction h with
 | asg ht hk ha hb iha ihb =>
  intro hr
  have hk := rg_kid hr
  rw [lay_asg]
  exact .app (sid_lex (iha (hk _ Zgh))) (.sgn ht asg_slf (sid_lex (ihb (hk _ Zgh))))
 | cond ha hb hc iha ihb ihc =>
  intro hr
  have hk := rg_kid hr
  rw [lay_cond]
  exact .app (sid_lex (iha (hk _ Zgh))) (.cons Zj (.app (sid_lex (ihb (hk _ Zgh))) (.cons Zj (sid_lex (ihc (hk _ Zgh))))))
 | bin hk ht ha hb iha ihb =>
  intro hr
  have hk' := rg_kid hr
  rw [lay_bin]
  exact .app (sid_lex (iha (hk' _ Zgh))) (.sgn ht (lev_slf hk) (sid_lex (ihb (hk' _ Zgh))))
 | un ht ha iha =>
  intro hr
  have hk := rg_kid hr
  rw [lay_un]
  exact .sgn ht un_slf (sid_lex (iha (hk _ Zgh)))
 | call ht hl ih =>
  intro hr
  have hk := rg_kid hr
  rw [lay_call]
  have hc : LexOk (sg [40] :: (comL (List.map (layT intS floS) _) ++ [sg [41]])) := .cons Zj (.app (.com (map_lex fun p hp => ih p hp (hk p hp))) (.cons Zj .nil))
  exact ht.elim (fun e => .nam e hc) (fun e => .typ e hc)
 | fld ht ha iha =>
  intro hr
  have hk := rg_kid hr
  rw [lay_fld]
  exact .app (sid_lex (iha (hk _ Zgh))) (.cons Zj (.nam ht .nil))
 | nam ht =>
  intro _
  rw [lay_nam]
  exact .nam ht .nil
 | int h0 hm =>
  intro hr
  rw [lay_int]
  exact .cons (slfB_iff.2 (int_slf _ ⟨h0, (rg_nm hr).2⟩ hm)) .nil
 | flt h0 =>
  intro hr
  rw [lay_flt]
  exact .cons (slfB_iff.2 (flo_slf _ ⟨h0, (rg_nm hr).2⟩)) .nil
 | boo ht =>
  intro _
  rw [lay_boo]
  exact .wd (word_in ht Zf6) .nil
theorem bn_lex {x : Int} (h : WB x) (hr : -2147483648 ≤ x ∧ x ≤ 2147483647) : LexOk (bnT intS x) := by
 cases h with
 | mk h1 h2 =>
  unfold bnT
  split
  ·exact .cons Zj (.cons (slfB_iff.2 (int_slf _ Zf7 Zf7)) .nil)
  ·exact .cons (slfB_iff.2 (int_slf _ Zf7 h1)) .nil
theorem V_lex {p : Pt} (h : WV p) (hr : rgP p) : LexOk (layT intS floS p) := by
 cases h with
 | v0 ht =>
  rw [lay_v0]
  exact .nam ht .nil
 | v1 ht he =>
  rw [lay_v1]
  exact .nam ht (.cons Zj (E_lex he (rg_kid hr _ Zgh)))
theorem M_lex {p : Pt} (h : WM p) : LexOk (layT intS floS p) := by
 cases h with
 | mk ht hn =>
  rw [lay_prm]
  exact .typ ht (.nam hn .nil)
theorem decl_lex {ty tx : List UInt8} {l : List Pt} (htx : tx = [] ∨ isQua tx = true) (ht : isTyp ty = true) (hv : ∀ v ∈ l, WV v) (hr : rgP (.mk 2 ty tx 0 0 l)) : LexOk (layT intS floS (.mk 2 ty tx 0 0 l)) := by
 have hk := rg_kid hr
 rw [lay_decl]
 refine .app ?_ (.typ ht (.app (.com (map_lex fun p hp => V_lex (hv p hp) (hk p hp))) (.cons Zj .nil)))
 rcases htx with rfl | h
 ·exact .nil
 ·split
  ·exact .nil
  ·exact .wd (word_in (L := quaW) (by unfold isQua at h; exact List.contains_iff_mem.1 h) Zf6) .nil
theorem S_lex {p : Pt} (h : WS p) : rgP p → LexOk (layT intS floS p) := by
 induction h with
 | blk hl ih =>
  intro hr
  have hk := rg_kid hr
  rw [lay_blk]
  exact .cons Zj (.app (.flat (map_lex fun p hp => ih p hp (hk p hp))) (.cons Zj .nil))
 | decl ht hty hne hv => exact decl_lex (ht.elim .inl fun e => .inr (by rw [e]; decide)) hty hv
 | if2 ha hs ihs =>
  intro hr
  have hk := rg_kid hr
  rw [lay_if2]
  exact .wd Zf6 (.cons Zj (.app (E_lex ha (hk _ Zgh)) (.cons Zj (ihs (hk _ Zgh)))))
 | if3 ha hs ho ht ihs iht =>
  intro hr
  have hk := rg_kid hr
  rw [lay_if3]
  exact .wd Zf6 (.cons Zj (.app (E_lex ha (hk _ Zgh)) (.cons Zj (.app (ihs (hk _ Zgh)) (.wd Zf6 (iht (hk _ Zgh)))))))
 | «for» ht hx hy hs ihs =>
  intro hr
  have hk := rg_kid hr
  rw [lay_for]
  have bx := bn_lex hx (rg_nm (hk _ (List.mem_cons_self ..)))
  have bz := bn_lex hy (rg_nm (hk _ (List.mem_cons_of_mem _ (List.mem_cons_self ..))))
  have c1 := LexOk.cons (t := sg [41]) Zj (ihs (hk _ Zgh))
  have c2 := LexOk.cons (t := sg [59]) Zj (LexOk.nam ht (LexOk.cons (t := sg [43, 43]) Zj c1))
  have c3 := LexOk.cons (t := sg [59]) Zj (LexOk.nam ht (LexOk.cons (t := sg [60]) Zj (.app bz c2)))
  exact .wd Zf6 (.cons Zj (.wd Zf6 (.nam ht (.cons Zj (.app bx c3)))))
 | ret0 =>
  intro _
  rw [lay_ret0]
  exact .wd Zf6 (.cons Zj .nil)
 | ret1 ha =>
  intro hr
  have hk := rg_kid hr
  rw [lay_ret1]
  exact .wd Zf6 (.app (E_lex ha (hk _ Zgh)) (.cons Zj .nil))
 | disc =>
  intro _
  rw [lay_disc]
  exact .wd Zf6 (.cons Zj .nil)
 | exp ha =>
  intro hr
  have hk := rg_kid hr
  rw [lay_exp]
  exact .app (E_lex ha (hk _ Zgh)) (.cons Zj .nil)
 | emp =>
  intro _
  rw [lay_emp]
  exact .cons Zj .nil
theorem T_lex {p : Pt} (h : WT p) (hr : rgP p) : LexOk (layT intS floS p) := by
 cases h with
 | decl ht hty hne hv => exact decl_lex ht hty hv hr
 | func hty hn hps hl =>
  have hk := rg_kid hr
  rw [lay_func]
  exact .typ hty (.nam hn (.cons Zj (.app (.com (map_lex fun p hp => M_lex (hps p hp))) (.cons Zj (S_lex (.blk hl) (hk _ Zgh))))))
theorem H_lex {p : Pt} (h : WH p) (hr : rgP p) : LexOk (layT intS floS p) := by
 cases h with
 | mk hl =>
  have hk := rg_kid hr
  rw [lay_sh]
  exact .flat (map_lex fun p hp => T_lex (hl p hp) (hk p hp))
def brk (t : List UInt8) : Int := if t = [59] ∨ t = [123] ∨ t = [125] then 1 else 0
def lnI : Int → List Ti → List (Int × Int × List UInt8 × Int)
 | _, [] => []
 | n, t :: l => (n, t.k, t.t, t.x) :: lnI (n + brk t.t) l
theorem lnI_core : ∀ (l : List Ti) (n : Int), (lnI n l).map (·.2) = l.map coreI
 | [], _ => rfl
 | t :: l, n => by rw [lnI, List.map_cons, List.map_cons, lnI_core l]; rfl
theorem lnI_mem : ∀ {l : List Ti} {n : Int} {y}, y ∈ lnI n l → ∃ t ∈ l, y.2 = (t.k, t.t, t.x)
 | [], _, _, h => by rw [lnI] at h; cases h
 | t :: l, n, y, h => by
  rw [lnI] at h
  rcases List.mem_cons.1 h with rfl | h
  ·exact ⟨t, List.mem_cons_self .., rfl⟩
  ·obtain ⟨u, hu, e⟩ := lnI_mem h
   exact ⟨u, List.mem_cons_of_mem _ hu, e⟩
theorem puts_pr : ∀ (l : List Ti) (s la : List UInt8) (m : Int), la ≠ [] → (∀ t ∈ l, t.t ≠ []) → (putsS (s, la) (l.map (·.t))).1 = s ++ prR (some m) ((lnI (m + brk la) l).map fun y => (y.1, y.2.2.1))
 | [], s, la, m, _, _ => by
  rw [lnI]
  show s = s ++ []
  rw [List.append_nil]
 | t :: l, s, la, m, h0, hl => by
  have ih := puts_pr l (s ++ (sepB la ++ t.t)) t.t (m + brk la) (hl t (List.mem_cons_self ..)) (fun u hu => hl u (List.mem_cons_of_mem _ hu))
  rw [lnI, List.map_cons, List.map_cons]
  show (putsS (s ++ (sepB la ++ t.t), t.t) (l.map (·.t))).1 = _
  rw [ih, List.append_assoc]
  show _ = s ++ ((if m < m + brk la then 10 else 32) :: (t.t ++ prR (some (m + brk la)) _))
  congr 1
  have hs : sepB la = [if m < m + brk la then 10 else 32] := by
   unfold sepB brk
   rw [if_neg h0]
   split
   ·rw [if_pos Zf7]
   ·rw [if_neg Zf7]
  rw [hs]
  simp
theorem txt_pr (l : List Ti) (h : ∀ t ∈ l, t.t ≠ []) : (putsS ([], []) (l.map (·.t))).1 = prR none ((lnI 0 l).map fun y => (y.1, y.2.2.1)) := by
 cases l with
 | nil => rfl
 | cons t l =>
  have := puts_pr l t.t t.t 0 (h t (List.mem_cons_self ..)) (fun u hu => h u (List.mem_cons_of_mem _ hu))
  rw [lnI, List.map_cons]
  exact this
theorem lex_far {s : List UInt8} : ∀ {l : List Tk} {i : Nat} (acc : List Tk), Ch s i l → acc.length ≤ 2048 → 2048 < acc.length + l.length → ∃ p, lexR s i acc = ([], 3, p)
 | [], i, acc, _, h1, h2 => by simp at h2; omega
 | t :: l, i, acc, h, ha, hl => by
  obtain ⟨hi, q, h1, h2, h3, h4, rfl, h5⟩ := h
  have hq : i + (q - i) = q := by omega
  rw [lexR_eq s i acc hi, h3]
  dsimp only
  rw [hq, if_neg Zgh, if_neg Zf7]
  by_cases hf : acc.length = 2048
  ·have he : errAt s q acc.length = 3 := by
    unfold errAt
    rw [if_pos ⟨.inl h4, hf⟩]
   exact ⟨q, by rw [he, if_pos Zf6]⟩
  ·have he : errAt s q acc.length = 0 := by
    unfold errAt
    rw [if_neg (fun e => hf e.2), h4]
   rw [he, if_neg Zf6]
   exact lex_far (acc ++ [tkAt s q]) h5 Zja (by simp at hl ⊢; omega)
theorem slf_ne {k x : Int} {t : List UInt8} (h : slfB (k, t, x) = true) : t ≠ [] := (slfB_iff.1 h).2.1
theorem txt_lex {p : Pt} (h : WH p) (hr : rgP p) : (∃ q, lexS (txt p) = ([], 3, q)) ∨ ∃ T, lexS (txt p) = (T, 0, 0) ∧ T.map core = (layT intS floS p).map coreI ∧ T.length ≤ 2048 := by
 have hl := H_lex h hr
 have hne : ∀ t ∈ layT intS floS p, t.t ≠ [] := fun t ht => slf_ne (hl t ht).1
 have ht : txt p = prR none ((lnI 0 (layT intS floS p)).map fun y => (y.1, y.2.2.1)) := txt_pr _ hne
 have hs : ∀ y ∈ lnI 0 (layT intS floS p), slfB y.2 = true := fun y hy => by
  obtain ⟨t, ht, e⟩ := lnI_mem hy
  rw [e]
  exact (hl t ht).1
 by_cases hlen : 8192 < (txt p).length
 ·refine .inl ⟨0, ?_⟩
  unfold lexS
  rw [if_pos hlen]
 ·obtain ⟨M, h1, h2⟩ := pr_ch (T := txt p) (lnI 0 (layT intS floS p)) none 0 (fun y hy => slfB_iff.1 (hs y hy)) (Nat.zero_le _) ht
  rw [lnI_core] at h2
  by_cases hM : M.length ≤ 2048
  ·exact .inr ⟨M, lexS_of_ch Zf7 h1 hM, h2, hM⟩
  ·obtain ⟨q, hq⟩ := lex_far [] h1 Zgh (by simpa using hM)
   exact .inl ⟨q, by rw [lexS_eq Zf7, hq]⟩
end Go.Proofs.YtbinaeemcidicaaGreatDoor
namespace Go.Proofs.YtbinaeemcidicaaGreatDoor
theorem slf_word {k x : Int} {s : List UInt8} (h : slf s k x) : (k = 1 → wordB s = true) ∧ (k = 4 → wordB s = false) ∧ (k = 2 → 0 ≤ x ∧ x % 65536 = 0 ∧ x < 2147483648) ∧ (k = 3 → 0 ≤ x) ∧ 0 ≤ x ∧ x ≤ 2147483647 := by
 obtain ⟨_, h2, _, h4⟩ := h
 have hx := tok_x s
 rw [h4] at hx
 dsimp only at hx
 refine ⟨fun e => ?_, fun e => ?_, fun e => ⟨hx.1, ?_, by omega⟩, fun _ => hx.1, hx⟩
 all_goals (subst e; unfold tokS at h4)
 ·by_cases c1 : leB (s.getD 0 0) = true
  ·rw [if_pos c1] at h4
   by_cases c2 : 32 < runN woB s
   ·rw [if_pos c2] at h4
    cases h4
   ·rw [if_neg c2] at h4
    have hr : runN woB s = s.length := congrArg Tq.m h4
    have ha := runN_all woB s
    rw [hr, List.take_length] at ha
    unfold wordB
    simp only [Bool.and_eq_true, decide_eq_true_eq, List.all_eq_true]
    refine ⟨⟨⟨by simpa using h2, by omega⟩, ?_⟩, ha⟩
    cases s with
    | nil => exact absurd rfl h2
    | cons c t => exact c1
  ·rw [if_neg c1] at h4
   exfalso
   split at h4
   ·unfold numS at h4
    repeat' split at h4
    all_goals (have hk := congrArg Tq.k h4; simp at hk)
   ·split at h4 <;> cases h4
 ·by_cases c1 : leB (s.getD 0 0) = true
  ·rw [if_pos c1] at h4
   split at h4 <;> cases h4
  ·unfold wordB
   cases s with
   | nil => rfl
   | cons c t =>
    have : leB c = false := by simpa using c1
    simp [this]
 ·by_cases c1 : leB (s.getD 0 0) = true
  ·rw [if_pos c1] at h4
   split at h4 <;> cases h4
  ·rw [if_neg c1] at h4
   split at h4
   ·unfold numS at h4
    split at h4
    ·cases h4
    ·split at h4
     ·cases h4
     ·split at h4
      ·have hk := congrArg Tq.k h4
       simp at hk
      ·split at h4
       ·cases h4
       ·have e : ofS (wholeS 32768 (s.take (numN s)) : Nat) = x := congrArg Tq.x h4
        rw [← e]
        unfold ofS rawS
        omega
   ·split at h4 <;> cases h4
theorem lex_gt {s : List UInt8} {T : List Tk} {p : Nat} (h : lexS s = (T, 0, p)) : GT ((T.map tiOf).map erT) ∧ plG (T.map tiOf) := by
 have hs := lex_slf h
 refine ⟨fun t ht => ?_, fun t ht => ?_⟩
 ·rw [List.map_map] at ht
  obtain ⟨u, hu, rfl⟩ := List.mem_map.1 ht
  obtain ⟨a1, a2, a3, a4, _, _⟩ := slf_word (slfB_iff.1 (hs u hu))
  exact ⟨rfl, a1, a2, a3, a4⟩
 ·obtain ⟨u, hu, rfl⟩ := List.mem_map.1 ht
  obtain ⟨_, _, _, _, a5, a6⟩ := slf_word (slfB_iff.1 (hs u hu))
  exact ⟨by show (0 : Int) ≤ ((u.at_ : Nat) : Int); omega, a5, a6⟩
theorem wt_of {s : List UInt8} {T : List Tk} {p f : Nat} {ps : List Pt} {l' : List Ti} (h : lexS s = (T, 0, p)) (e : pF f (.shad []) (T.map tiOf) = some (some ps, l')) : (∀ q ∈ erL ps, WT q) ∧ rgL ps ∧ cntL ps ≤ T.length := by
 obtain ⟨g1, g2⟩ := lex_gt h
 refine ⟨?_, (pF_pl f (.shad []) _ g2 rgL_nil _ _ e).1, ?_⟩
 ·have h1 := pF_er f (.shad []) (T.map tiOf)
  rw [e] at h1
  have h2 : pF f (.shad []) ((T.map tiOf).map erT) = some (some (erL ps), l'.map erT) := by
   rw [show erN (.shad []) = Nt.shad [] by rw [erN, erL]] at h1
   exact h1.symm
  exact pF_wf f (.shad []) _ _ _ g1 (fun p hp => by cases hp) h2
 ·have := (pF_cnt f (.shad []) (T.map tiOf) ps l' e).1
  simp only [baseN, cntL, List.length_map] at this
  omega
def mkC (c : Int × List UInt8 × Int) : Ti := ⟨c.1, c.2.1, c.2.2, 0, 0⟩
theorem back_of {ps : List Pt} (hw : ∀ q ∈ erL ps, WT q) (hr : rgL ps) {T : List Tk} (hc : T.map core = (layT intS floS (.mk 1 [] [] 0 0 (erL ps))).map coreI) {f : Nat} {o : Option (List Pt)} {l' : List Ti} (e : pF f (.shad []) (T.map tiOf) = some (o, l')) :
  ∃ qs, o = some qs ∧ erL qs = erL ps := by
 have hW : WH (.mk 1 [] [] 0 0 (erL ps)) := .mk hw
 have hl := H_lex hW (rgP_mk (Int.le_refl 0) Zf6 (rg_erL ps hr))
 have h1 : (T.map tiOf).map erT = layT intS floS (.mk 1 [] [] 0 0 (erL ps)) := by
  have e1 : (T.map tiOf).map erT = (T.map core).map mkC := by rw [List.map_map, List.map_map]; rfl
  have e2 : ∀ l : List Ti, LexOk l → (l.map coreI).map mkC = l := fun l hl => by
   rw [List.map_map]
   conv => rhs; rw [← List.map_id l]
   exact List.map_congr_left fun t ht => (hl t ht).2
  rw [e1, hc, e2 _ hl]
 have h2 := pF_er f (.shad []) (T.map tiOf)
 rw [e, h1, show erN (.shad []) = Nt.shad [] by rw [erN, erL]] at h2
 obtain ⟨f0, hf⟩ := H_ok intS floS hW
 have := pF_det h2.symm (hf f0 (Nat.le_refl _))
 cases o with
 | none => cases this
 | some qs => exact ⟨qs, rfl, (Option.some.inj (congrArg (fun x => x.1) this))⟩
mutual
theorem hgt_er : ∀ p : Pt, hgtP (erP p) = hgtP p
 | .mk kd ty tx nm pl ks => by rw [erP, hgtP, hgtP, hgt_erL ks]
theorem hgt_erL : ∀ l : List Pt, hgtL (erL l) = hgtL l
 | [] => by rw [erL]
 | p :: l => by rw [erL, hgtL, hgtL, hgt_er p, hgt_erL l]
end
mutual
theorem core_er : ∀ (p : Pt) (i : Nat), (fltP (erP p) i).map coreN = (fltP p i).map coreN
 | .mk kd ty tx nm pl ks, i => by rw [erP, fltP, fltP, List.map_cons, List.map_cons, core_erL ks, kids_er]; rfl
theorem core_erL : ∀ (l : List Pt) (i : Nat), (fltL (erL l) i).map coreN = (fltL l i).map coreN
 | [], i => by rw [erL]
 | p :: l, i => by rw [erL, fltL, fltL, List.map_append, List.map_append, core_er p, core_erL l, cnt_er]
end
theorem core_flt {ps qs : List Pt} (h : erL ps = erL qs) {N N' : List Nk} (h1 : N.map Prod.fst = fltP (.mk 1 [] [] 0 0 ps) 0) (h2 : N'.map Prod.fst = fltP (.mk 1 [] [] 0 0 qs) 0) : coreL (N.map plaV) = coreL (N'.map plaV) := by
 have e : ∀ l : List Nk, coreL (l.map plaV) = (l.map Prod.fst).map coreN := fun l => by unfold coreL; rw [List.map_map, List.map_map]; rfl
 rw [e, e, h1, h2, ← core_er (.mk 1 [] [] 0 0 ps), ← core_er (.mk 1 [] [] 0 0 qs), erP_mk, erP_mk, h]
theorem pla_nd (N : List Nk) : (N.map plaV).map Nv.nd = N.map Prod.fst := by rw [List.map_map]; rfl
theorem good_of {ps : List Pt} (hw : ∀ q ∈ erL ps, WT q) (hr : rgL ps) (hh : hgtL ps ≤ 32) (hn : cntL ps ≤ 2048) {N : List Nk} (hN : N.map Prod.fst = fltP (.mk 1 [] [] 0 0 ps) 0) :
  N.length ≤ 2049 ∧ checkP (N.map plaV) = some (.mk 1 [] [] 0 0 ps) ∧ WH (.mk 1 [] [] 0 0 (erL ps)) ∧ PlP (N.map plaV) (.mk 1 [] [] 0 0 (erL ps)) 0 ∧ ∀ y ∈ N.map plaV, y.nd.ks.length ≤ 1000000 := by
 have hl : N.length = cntL ps + 1 := by rw [← List.length_map (f := Prod.fst), hN, flt_len, cntP]
 have hN' : (N.map plaV).map Nv.nd = fltP (.mk 1 [] [] 0 0 ps) 0 := by rw [pla_nd, hN]
 have hl' : (N.map plaV).length = cntL ps + 1 := by rw [List.length_map, hl]
 refine ⟨by omega, check_full hN' Zf7 hw hr hh, .mk hw, ?_, fun y hy => ?_⟩
 ·have := pl_of (N := N.map plaV) Zf7 (.mk 1 [] [] 0 0 ps) 0 (rgP_mk (Int.le_refl 0) Zf6 hr) (by rw [List.drop_zero, hN', List.take_of_length_le]; rw [flt_len]; exact Nat.le_refl _) (by rw [cntP]; omega)
  rwa [erP_mk] at this
 ·have hs := flt_sum (.mk 1 [] [] 0 0 ps) 0
  rw [← hN', cntP] at hs
  have hm : y.nd ∈ (N.map plaV).map Nv.nd := List.mem_map.2 ⟨y, hy, rfl⟩
  obtain ⟨a, b, hab⟩ := List.append_of_mem hm
  rw [hab, sumK_app, sumK] at hs
  omega
end Go.Proofs.YtbinaeemcidicaaGreatDoor
namespace Go.Proofs.YtbinaeemcidicaaGreatDoor
mutual
def quP (Q : Int → Prop) : Pt → Prop
 | .mk _ _ _ _ pl ks => Q pl ∧ quL Q ks
def quL (Q : Int → Prop) : List Pt → Prop
 | [] => True
 | p :: l => quP Q p ∧ quL Q l
end
section
variable {Q : Int → Prop}
theorem quL_all : ∀ l : List Pt, quL Q l ↔ ∀ p ∈ l, quP Q p
 | [] => by rw [quL]; simp
 | p :: l => by rw [quL, quL_all l]; simp
def quT (Q : Int → Prop) (t : Ti) : Prop := Q t.a
def quG (Q : Int → Prop) (l : List Ti) : Prop := ∀ t ∈ l, quT Q t
def quN (Q : Int → Prop) : Nt → Prop
 | .binL _ p => quP Q p
 | .fld p => quP Q p
 | .args l => quL Q l
 | .stms l => quL Q l
 | .decl a _ _ => Q a
 | .vars l => quL Q l
 | .varE l v => quL Q l ∧ quP Q v
 | .func w => Q w.a
 | .parL l => quL Q l
 | .shad l => quL Q l
 | _ => True
def QuR (Q : Int → Prop) (r : Rp) : Prop := ∀ ps l, r = some (some ps, l) → quL Q ps ∧ quG Q l
theorem quG.suf {l l' : List Ti} (h : quG Q l) (hs : l' <:+ l) : quG Q l' := fun t ht => h t (hs.subset ht)
theorem quL_app {a b : List Pt} (ha : quL Q a) (hb : quL Q b) : quL Q (a ++ b) := (quL_all _).2 fun p hp => (List.mem_append.1 hp).elim ((quL_all a).1 ha p) ((quL_all b).1 hb p)
theorem quL_one {p : Pt} (h : quP Q p) : quL Q [p] := (quL_all _).2 fun q hq => by rw [List.mem_singleton.1 hq]; exact h
theorem quL_two {p q : Pt} (h : quP Q p) (h2 : quP Q q) : quL Q [p, q] := quL_app (quL_one h) (quL_one h2)
theorem quL_three {p q r : Pt} (h : quP Q p) (h2 : quP Q q) (h3 : quP Q r) : quL Q [p, q, r] := quL_app (quL_one h) (quL_two h2 h3)
theorem quL_nil : quL Q [] := (quL_all _).2 fun _ h => by cases h
theorem quL_hd (hQ : Q 0) {l : List Pt} (h : quL Q l) : quP Q (hdP l) := by
 cases l with
 | nil => unfold hdP pt0; rw [show ([] : List Pt).headD (Pt.mk 0 [] [] 0 0 []) = Pt.mk 0 [] [] 0 0 [] from rfl, quP]; exact ⟨hQ, quL_nil⟩
 | cons p l => exact (quL_all _).1 h p (List.mem_cons_self ..)
theorem quP_mk {kd : Int} {ty tx : List UInt8} {nm pl : Int} {ks : List Pt} (h : Q pl) (hk : quL Q ks) : quP Q (.mk kd ty tx nm pl ks) := by rw [quP]; exact ⟨h, hk⟩
theorem quG_hd (hQ : Q 0) {l : List Ti} (h : quG Q l) : Q (l.headD ti0).a := by
 cases l with
 | nil => exact hQ
 | cons t l => exact h t (List.mem_cons_self ..)
theorem quG_drop {l : List Ti} (h : quG Q l) (k : Nat) : quG Q (l.drop k) := h.suf (List.drop_suffix k l)
theorem qur_ok {ps : List Pt} {l : List Ti} (h : quL Q ps) (hl : quG Q l) : QuR Q (okP ps l) := fun ps' l' e => by cases e; exact ⟨h, hl⟩
theorem qur_bad {l : List Ti} : QuR Q (badP l) := fun ps' l' e => by cases e
theorem qur_bnd {r : Rp} {k : List Pt → List Ti → Rp} (hr : QuR Q r) (h : ∀ ps l, quL Q ps → quG Q l → QuR Q (k ps l)) : QuR Q (bndP r k) := fun ps' l' e => by
 unfold bndP at e
 cases r with
 | none => cases e
 | some y =>
  obtain ⟨o, l⟩ := y
  cases o with
  | none => cases e
  | some ps =>
   obtain ⟨h1, h2⟩ := hr ps l rfl
   exact h ps l h1 h2 ps' l' e
theorem qur_tk {p : Ti → Bool} {l : List Ti} {k : Ti → List Ti → Rp} (hl : quG Q l) (h : ∀ t l, quT Q t → quG Q l → QuR Q (k t l)) : QuR Q (tkP p l k) := by
 unfold tkP
 cases l with
 | nil => exact qur_bad
 | cons t l =>
  dsimp only
  split
  ·exact h t l (hl t (List.mem_cons_self ..)) (hl.suf (List.suffix_cons t l))
  ·exact qur_bad
theorem qur_may {s : List (List UInt8)} {l : List Ti} {k : Ti → List Ti → Rp} {e : Rp} (hl : quG Q l) (h : ∀ t l, quT Q t → quG Q l → QuR Q (k t l)) (he : QuR Q e) : QuR Q (mayP s l k e) := by
 unfold mayP
 cases l with
 | nil => exact he
 | cons t l =>
  dsimp only
  split
  ·exact h t l (hl t (List.mem_cons_self ..)) (hl.suf (List.suffix_cons t l))
  ·exact he
theorem qur_ite {P : Prop} [Decidable P] {a b : Rp} (ha : QuR Q a) (hb : QuR Q b) : QuR Q (if P then a else b) := by
 split
 ·exact ha
 ·exact hb
theorem quG_nil : quG Q [] := fun _ h => by cases h
theorem qu_binL {k : Nat} {ty tx : List UInt8} {nm a kd : Int} {ks : List Pt} (h : Q a) (h2 : quL Q ks) : quN Q (.binL k (.mk kd ty tx nm a ks)) := (quP_mk h h2 : quP Q (.mk kd ty tx nm a ks))
theorem qu_fld {ty tx : List UInt8} {nm a kd : Int} {ks : List Pt} (h : Q a) (h2 : quL Q ks) : quN Q (.fld (.mk kd ty tx nm a ks)) := (quP_mk h h2 : quP Q (.mk kd ty tx nm a ks))
theorem pF_qu (hQ : Q 0) : ∀ (f : Nat) (n : Nt) (l : List Ti), quG Q l → quN Q n → QuR Q (pF f n l)
 | 0, n, l => fun _ _ => by rw [pF]; exact fun _ _ e => by cases e
 | f + 1, n, l => fun hl hn => by
  have ih : ∀ {n : Nt} {l : List Ti}, quG Q l → quN Q n → QuR Q (pF f n l) := fun h1 h2 => pF_qu hQ f _ _ h1 h2
  have hb : ∀ k, quN Q (binN k) := fun k => by unfold binN; split <;> trivial
  cases n <;> (rw [pF]; repeat' (first
   | (refine qur_bnd ?_ fun ps l hps hl => ?_)
   | (refine qur_tk ?_ fun t l ht hl => ?_)
   | (refine qur_may ?_ (fun t l ht hl => ?_) ?_)
   | (refine qur_ite ?_ ?_)
   | (refine qur_ok ?_ ?_) | exact qur_bad
   | exact ih Zf5 (hb _)
   | (refine qu_binL ?_ ?_)
   | exact quG_nil
   | (refine ih ?_ ?_)
   | assumption
   | trivial
   | (show quP Q (Pt.mk _ _ _ _ _ _); refine quP_mk ?_ ?_)
   | (show quL Q _ ∧ quP Q _; refine And.intro ?_ ?_)
   | exact (fun _ h => by cases h : quG Q [])
   | exact quL_nil
   | exact (by decide : (-2147483648 : Int) ≤ 0 ∧ (0 : Int) ≤ 2147483647)
   | (refine qu_fld ?_ ?_)
   | exact quG_hd hQ Zf5
   | (refine quG_drop ?_ _)
   | exact quL_hd hQ Zf5
   | exact hn.1 | exact hn.2
   | (refine quL_app ?_ ?_) | (refine quL_three ?_ ?_ ?_) | (refine quL_two ?_ ?_) | (refine quL_one ?_) | (refine quP_mk ?_ ?_)))
end
mutual
theorem putP_qu {Q : Int → Prop} : ∀ (p : Pt) (d b : Nat) (sp : Option Int) (y : Int), quP Q p → (∀ x, sp = some x → Q x) → (putP p d b sp).2 = some y → Q y
 | .mk kd ty tx nm pl ks, d, b, sp, y, h, hs, e => by
  cases sp with
  | some x =>
   rw [putP_some] at e
   exact hs y e
  | none =>
   rw [quP] at h
   by_cases hd : 32 < d
   ·rw [putP_deep hd] at e
    cases e
    exact h.1
   ·rw [putP_go hd] at e
    exact putL_qu ks d (b + 1) none y h.2 hs e
theorem putL_qu {Q : Int → Prop} : ∀ (l : List Pt) (d b : Nat) (sp : Option Int) (y : Int), quL Q l → (∀ x, sp = some x → Q x) → (putL l d b sp).2.2 = some y → Q y
 | [], d, b, sp, y, _, hs, e => hs y e
 | p :: l, d, b, sp, y, h, hs, e => by
  rw [quL] at h
  rw [putL] at e
  exact putL_qu l d _ _ y h.2 (fun x hx => putP_qu p (d + 1) b sp x h.1 hs hx) e
end
theorem spot_at {s : List UInt8} {T : List Tk} {p f : Nat} {o : Option (List Pt)} {l' : List Ti} {e a : Int} (h : lexS s = (T, 0, p)) (hF : pF f (.shad []) (T.map tiOf) = some (o, l')) (hsp : spotO (T.map tiOf) o l' = (e, a)) (he : e ≠ 0) : (e = 220 ∨ e = 3) ∧ 0 ≤ a ∧ a ≤ (s.length : Nat) := by
 obtain ⟨h1, h2, h3⟩ := ch_of_lexS h
 have hin : ∀ t ∈ T.map tiOf, 0 ≤ t.a ∧ t.a + (t.t.length : Nat) ≤ (s.length : Nat) := fun t ht => by
  obtain ⟨u, hu, rfl⟩ := List.mem_map.1 ht
  obtain ⟨q, _, hq, rfl⟩ := ch_tok h2 u hu
  have hl : ((s.drop q).take (tokS (s.drop q)).m).length ≤ s.length - q := by rw [List.length_take, List.length_drop]; omega
  refine ⟨by show (0 : Int) ≤ ((q : Nat) : Int); omega, ?_⟩
  show ((q : Nat) : Int) + (((s.drop q).take (tokS (s.drop q)).m).length : Nat) ≤ _
  omega
 unfold spotO at hsp
 cases o with
 | none =>
  cases hsp
  refine ⟨.inl rfl, ?_⟩
  unfold endP
  have hg : ∀ j, j < (T.map tiOf).length → (T.map tiOf).getD j ti0 ∈ T.map tiOf := fun j hj => by
   simp only [List.getD, List.getElem?_eq_getElem hj, Option.getD_some]
   exact List.getElem_mem hj
  split
  ·rename_i hj
   have := hin _ (hg _ hj)
   omega
  ·split
   ·rename_i hj
    have := hin _ (hg ((T.map tiOf).length - 1) Zf7)
    rw [show ∀ m : Int, 0 ≤ m → m < 9223372036854775808 → IntKind.i64.wrap m = m from fun m h0 h1 => by unfold IntKind.wrap; simp [IntKind.signed, IntKind.bits]; omega] <;> omega
   ·omega
 | some ps =>
  dsimp only at hsp
  obtain ⟨sp, hq⟩ : ∃ q, (putP (.mk 1 [] [] 0 0 ps) 0 0 none).2 = q := ⟨_, rfl⟩
  rw [hq] at hsp
  cases sp with
  | none => cases hsp; exact absurd rfl he
  | some y =>
   cases hsp
   refine ⟨.inr rfl, ?_⟩
   have hp := (pF_qu (Q := fun y => 0 ≤ y ∧ y ≤ (s.length : Nat)) Zf7 f (.shad []) _ (fun t ht => by have := hin t ht; show 0 ≤ t.a ∧ t.a ≤ _; omega) (quL_nil (Q := fun y => 0 ≤ y ∧ y ≤ (s.length : Nat))) _ _ hF).1
   exact putP_qu (Q := fun y => 0 ≤ y ∧ y ≤ (s.length : Nat)) _ 0 0 none a (quP_mk Zf7 hp) (fun x hx => by cases hx) hq
end Go.Proofs.YtbinaeemcidicaaGreatDoor
namespace Go.Proofs.YtbinaeemcidicaaGreatDoor
def LnOk (p : Pt) : Prop := (layT intS floS p).length + 2 ≤ 20 * cntP p
theorem sid_len {p : Pt} (h : LnOk p) : (sidT intS floS p).length ≤ 20 * cntP p := by
 unfold LnOk at h
 unfold sidT sidN
 split
 ·simp
  omega
 ·omega
theorem com_len : ∀ {l : List Pt}, (∀ p ∈ l, LnOk p) → (comL (l.map (layT intS floS))).length ≤ 20 * cntL l
 | [], _ => Nat.zero_le _
 | [a], h => by
  have := h a (List.mem_cons_self ..)
  unfold LnOk at this
  rw [cntL, cntL]
  show (layT intS floS a).length ≤ _
  omega
 | a :: b :: l, h => by
  have h1 := h a (List.mem_cons_self ..)
  unfold LnOk at h1
  have ih := com_len (l := b :: l) fun x hx => h x (List.mem_cons_of_mem _ hx)
  rw [cntL]
  show (layT intS floS a ++ sg [44] :: comL ((b :: l).map (layT intS floS))).length ≤ _
  rw [List.length_append, List.length_cons]
  omega
theorem flat_lenL : ∀ {l : List Pt}, (∀ p ∈ l, LnOk p) → ((l.map (layT intS floS)).flatten).length ≤ 20 * cntL l
 | [], _ => Nat.zero_le _
 | a :: l, h => by
  have h1 := h a (List.mem_cons_self ..)
  unfold LnOk at h1
  have ih := flat_lenL (l := l) fun x hx => h x (List.mem_cons_of_mem _ hx)
  rw [cntL, List.map_cons, List.flatten_cons, List.length_append]
  omega
theorem E_len {p : Pt} (h : WE p) : LnOk p := by
 induction h with
 | asg ht hk ha hb iha ihb =>
  have h1 := sid_len iha
  have h2 := sid_len ihb
  unfold LnOk
  rw [lay_asg]
  simp only [cntP, cntL, List.length_append, List.length_cons]
  omega
 | cond ha hb hc iha ihb ihc =>
  have h1 := sid_len iha
  have h2 := sid_len ihb
  have h3 := sid_len ihc
  unfold LnOk
  rw [lay_cond]
  simp only [cntP, cntL, List.length_append, List.length_cons]
  omega
 | bin hk ht ha hb iha ihb =>
  have h1 := sid_len iha
  have h2 := sid_len ihb
  unfold LnOk
  rw [lay_bin]
  simp only [cntP, cntL, List.length_append, List.length_cons]
  omega
 | un ht ha iha =>
  have h1 := sid_len iha
  unfold LnOk
  rw [lay_un]
  simp only [cntP, cntL, List.length_cons]
  omega
 | call ht hl ih =>
  have h1 := com_len ih
  unfold LnOk
  rw [lay_call]
  simp only [cntP, List.length_append, List.length_cons, List.length_nil]
  omega
 | fld ht ha iha =>
  have h1 := sid_len iha
  unfold LnOk
  rw [lay_fld]
  simp only [cntP, cntL, List.length_append, List.length_cons, List.length_nil]
  omega
 | nam ht => unfold LnOk; rw [lay_nam]; simp [cntP, cntL]
 | int h0 hm => unfold LnOk; rw [lay_int]; simp [cntP, cntL]
 | flt h0 => unfold LnOk; rw [lay_flt]; simp [cntP, cntL]
 | boo ht => unfold LnOk; rw [lay_boo]; simp [cntP, cntL]
theorem V_len {p : Pt} (h : WV p) : LnOk p := by
 cases h with
 | v0 ht => unfold LnOk; rw [lay_v0]; simp [cntP, cntL]
 | v1 ht he =>
  have h1 := E_len he
  unfold LnOk at h1 ⊢
  rw [lay_v1]
  simp only [cntP, cntL, List.length_cons]
  omega
theorem M_len {p : Pt} (h : WM p) : LnOk p := by
 cases h with
 | mk ht hn => unfold LnOk; rw [lay_prm]; simp [cntP, cntL]
theorem decl_len {ty tx : List UInt8} {l : List Pt} (hv : ∀ v ∈ l, WV v) : LnOk (.mk 2 ty tx 0 0 l) := by
 have h1 := com_len fun p hp => V_len (hv p hp)
 have h2 : (if tx = [] then ([] : List Ti) else [wd tx]).length ≤ 1 := by split <;> simp
 unfold LnOk
 rw [lay_decl]
 simp only [cntP, List.length_append, List.length_cons, List.length_nil]
 omega
theorem bn_len (x : Int) : (bnT intS x).length ≤ 2 := by
 unfold bnT
 split <;> simp
theorem S_len {p : Pt} (h : WS p) : LnOk p := by
 induction h with
 | blk hl ih =>
  have h1 := flat_lenL ih
  unfold LnOk
  rw [lay_blk]
  simp only [cntP, List.length_append, List.length_cons, List.length_nil]
  omega
 | decl ht hty hne hv => exact decl_len hv
 | if2 ha hs ihs =>
  have h1 := E_len ha
  unfold LnOk at h1 ihs ⊢
  rw [lay_if2]
  simp only [cntP, cntL, List.length_append, List.length_cons]
  omega
 | if3 ha hs ho ht ihs iht =>
  have h1 := E_len ha
  unfold LnOk at h1 ihs iht ⊢
  rw [lay_if3]
  simp only [cntP, cntL, List.length_append, List.length_cons]
  omega
 | @«for» tx x y s ht hx hy hs ihs =>
  have h1 := bn_len x
  have h2 := bn_len y
  unfold LnOk at ihs ⊢
  rw [lay_for]
  simp only [cntP, cntL, List.length_append, List.length_cons]
  omega
 | ret0 => unfold LnOk; rw [lay_ret0]; simp [cntP, cntL]
 | ret1 ha =>
  have h1 := E_len ha
  unfold LnOk at h1 ⊢
  rw [lay_ret1]
  simp only [cntP, cntL, List.length_append, List.length_cons, List.length_nil]
  omega
 | disc => unfold LnOk; rw [lay_disc]; simp [cntP, cntL]
 | exp ha =>
  have h1 := E_len ha
  unfold LnOk at h1 ⊢
  rw [lay_exp]
  simp only [cntP, cntL, List.length_append, List.length_cons, List.length_nil]
  omega
 | emp => unfold LnOk; rw [lay_emp]; simp [cntP, cntL]
theorem cntL_snoc (l : List Pt) (p : Pt) : cntL (l ++ [p]) = cntL l + cntP p := by rw [cntL_app, cntL, cntL]; rfl
theorem T_len {p : Pt} (h : WT p) : LnOk p := by
 cases h with
 | decl ht hty hne hv => exact decl_len hv
 | func hty hn hps hl =>
  have h1 := com_len fun p hp => M_len (hps p hp)
  have h2 := S_len (.blk hl)
  unfold LnOk at h2 ⊢
  rw [lay_func, cntP, cntL_snoc]
  simp only [List.length_append, List.length_cons]
  omega
theorem H_len {p : Pt} (h : WH p) : (layT intS floS p).length ≤ 20 * cntP p := by
 cases h with
 | mk hl =>
  have h1 := flat_lenL fun p hp => T_len (hl p hp)
  rw [lay_sh, cntP]
  omega
theorem puts_len : ∀ (ts : List (List UInt8)) (s : PS), (∀ t ∈ ts, t.length ≤ 64) → (putsS s ts).1.length ≤ s.1.length + 65 * ts.length
 | [], s, _ => by show s.1.length ≤ _; omega
 | t :: ts, s, h => by
  have ih := puts_len ts (putS s t) (fun u hu => h u (List.mem_cons_of_mem _ hu))
  have ht := h t (List.mem_cons_self ..)
  have h2 : (putS s t).1.length = s.1.length + ((sepB s.2).length + t.length) := by
   show (_ ++ (_ ++ t)).length = _
   rw [List.length_append, List.length_append]
  have h3 : (sepB s.2).length ≤ 1 := by
   unfold sepB
   repeat' split
   all_goals simp
  rw [List.length_cons]
  show (putsS (putS s t) ts).1.length ≤ _
  omega
theorem txt_len {p : Pt} (h : WH p) (hr : rgP p) (hn : cntP p ≤ 100000) : (txt p).length ≤ 1000000000 := by
 have hl := H_lex h hr
 have h1 := H_len h
 have h2 := puts_len (toks p) ([], []) (fun t ht => by
  unfold toks at ht
  obtain ⟨u, hu, rfl⟩ := List.mem_map.1 ht
  exact slf_len (slfB_iff.1 (hl u hu).1))
 have h3 : (toks p).length = (layT intS floS p).length := by unfold toks; rw [List.length_map]
 unfold txt
 simp only [List.length_nil] at h2
 omega
end Go.Proofs.YtbinaeemcidicaaGreatDoor
