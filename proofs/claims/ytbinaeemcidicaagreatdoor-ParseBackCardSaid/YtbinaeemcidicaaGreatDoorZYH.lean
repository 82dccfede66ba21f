/- Walks: the printer's lay over whole trees. No condition. -/
import Derived.Test.YtbinaeemcidicaaGreatDoorZVK
import Derived.Test.YtbinaeemcidicaaGreatDoorZYJ
import Derived.Test.YtbinaeemcidicaaGreatDoorZYG
set_option maxRecDepth 100000
set_option maxHeartbeats 16000000
namespace Go.Proofs.YtbinaeemcidicaaGreatDoor
open Go.PB Go.RowKit
attribute [local irreducible] Go.Calls
mutual
def PlP (N : List Nv) : Pt → Nat → Prop
 | .mk kd ty tx nm _ ks, i => i < N.length ∧ (∃ pl kv, N.getD i nv0 = ⟨⟨kd, ty, tx, nm, kidsA (i + 1) ks, pl⟩, kv⟩) ∧ (-2147483648 ≤ nm ∧ nm ≤ 2147483647) ∧ ks.length ≤ 1000000 ∧ PlL N ks (i + 1)
def PlL (N : List Nv) : List Pt → Nat → Prop
 | [], _ => True
 | p :: l, i => PlP N p i ∧ PlL N l (i + cntP p)
end
theorem PlP.node {N : List Nv} {kd nm pl : Int} {ty tx : List UInt8} {ks : List Pt} {i : Nat} (h : PlP N (.mk kd ty tx nm pl ks) i) :
  i < N.length ∧ (∃ pl kv, N.getD i nv0 = ⟨⟨kd, ty, tx, nm, kidsA (i + 1) ks, pl⟩, kv⟩) ∧ (-2147483648 ≤ nm ∧ nm ≤ 2147483647) ∧ ks.length ≤ 1000000 ∧ PlL N ks (i + 1) := by
 rw [PlP] at h
 exact h
theorem PlL_get {N : List Nv} : ∀ {l : List Pt} {b k : Nat}, PlL N l b → k < l.length → PlP N (l.getD k pt0) (b + cntL (l.take k))
 | [], b, k, _, hk => by simp at hk
 | p :: l, b, 0, h, _ => by
  rw [PlL] at h
  rw [List.take_zero, cntL]
  exact h.1
 | p :: l, b, k + 1, h, hk => by
  rw [PlL] at h
  rw [List.take_succ_cons, cntL, ← Nat.add_assoc]
  exact PlL_get h.2 (by simpa using hk)
theorem PlP.kd {N : List Nv} {p : Pt} {i : Nat} (h : PlP N p i) : i < N.length ∧ (N.getD i nv0).nd.kd = p.kd ∧ (N.getD i nv0).nd.nm = p.nm := by
 obtain ⟨kd, ty, tx, nm, pl, ks⟩ := p
 obtain ⟨h1, ⟨pl', kv, h2⟩, _⟩ := h.node
 exact ⟨h1, by rw [h2]; rfl, by rw [h2]; rfl⟩
def toks (p : Pt) : List (List UInt8) := (layT intS floS p).map (·.t)
theorem comS_map : ∀ L : List (List Ti), (comL L).map (·.t) = comS (L.map (List.map (·.t)))
 | [] => rfl
 | [a] => rfl
 | a :: b :: l => by
  show (a ++ sg [44] :: comL (b :: l)).map _ = _
  rw [List.map_append, List.map_cons, comS_map (b :: l)]
  rfl
theorem toks_map (l : List Pt) : ((l.map (layT intS floS)).map (List.map (·.t))) = l.map toks := by rw [List.map_map]; rfl
theorem com_toks (l : List Pt) : (comL (l.map (layT intS floS))).map (·.t) = comS (l.map toks) := by rw [comS_map, toks_map]
theorem flat_toks (l : List Pt) : ((l.map (layT intS floS)).flatten).map (·.t) = (l.map toks).flatten := by rw [List.map_flatten, toks_map]
theorem bnT_t (x : Int) : (bnT intS x).map (·.t) = wholeT' x := by
 unfold bnT wholeT'
 split <;> rfl
theorem nam_pos {w : List UInt8} (h : namB w = true) : 0 < w.length := by
 have := (nam_word h).1
 unfold wordB at this
 simp only [Bool.and_eq_true] at this
 cases w with
 | nil => exact absurd this.1.1.1 Zf6
 | cons a l => exact Nat.succ_pos _
theorem mem_pos {w : List UInt8} {l : List (List UInt8)} (h : w ∈ l) (hl : l.all (fun x => decide (0 < x.length)) = true) : 0 < w.length := by
 have := List.all_eq_true.1 hl w h
 simpa using this
theorem typ_pos {w : List UInt8} (h : isTyp w = true) : 0 < w.length := by
 unfold isTyp at h
 exact mem_pos (List.contains_iff_mem.1 h) Zf6
theorem asg_pos {w : List UInt8} (h : w ∈ asgW) : 0 < w.length := mem_pos h Zf6
theorem lev_pos {w : List UInt8} {k : Nat} (hk : k < 6) (h : w ∈ levW k) : 0 < w.length := by
 have : k = 0 ∨ k = 1 ∨ k = 2 ∨ k = 3 ∨ k = 4 ∨ k = 5 := by omega
 rcases this with rfl | rfl | rfl | rfl | rfl | rfl <;> exact mem_pos h Zf6
section
variable {lv : Value} {pb : Nat} {R : List Ent} {N : List Nv}
theorem side_tok (hT : RdT R lv N) {p : Pt} {i : Nat} (hp : PlP N p i) (h : LayI lv pb R (i : Nat) (toks p)) : SideI lv pb R (i : Nat) ((sidT intS floS p).map (·.t)) := by
 obtain ⟨h1, h2, _⟩ := hp.kd
 have := side_ok hT h1 h2 h
 unfold sidT sidN
 split
 ·rename_i ho
  rw [if_pos ho] at this
  rw [List.map_cons, List.map_append]
  exact this
 ·rename_i ho
  rw [if_neg ho] at this
  exact this
theorem kids_lay {P : Pt → Prop} {l : List Pt} {b : Nat} (hl : PlL N l b) (hP : ∀ p ∈ l, P p) (ih : ∀ p ∈ l, ∀ i, PlP N p i → LayI lv pb R (i : Nat) (toks p)) :
  (l.map toks).length = (kidsA b l).length ∧ ∀ j, j < (kidsA b l).length → LayI lv pb R ((kidsA b l).getD j 0) ((l.map toks).getD j []) := by
 have _ := hP
 refine ⟨by rw [List.length_map, kids_len], fun j hj => ?_⟩
 rw [kids_len] at hj
 rw [kids_get l b j hj]
 have hm : l.getD j pt0 ∈ l := by simp only [List.getD, List.getElem?_eq_getElem hj, Option.getD_some]; exact List.getElem_mem hj
 have := ih _ hm _ (PlL_get hl hj)
 simpa [List.getD, hj] using this
theorem E_lay (hT : RdT R lv N) (hpow : PowE R) {p : Pt} (h : WE p) : ∀ i, PlP N p i → LayI lv pb R (i : Nat) (toks p) := by
 induction h with
 | @asg tx a b ht hk ha hb iha ihb =>
  intro i hp
  obtain ⟨hi, ⟨pl, kv, hy⟩, _, _, hl⟩ := hp.node
  obtain ⟨_, _, _, _, _, _, _, _, _, _, hv⟩ := node_at hT hi hy
  rw [PlL, PlL] at hl
  unfold toks
  rw [lay_asg, List.map_append, List.map_cons]
  exact layI_exp hT hi hy Zf7 (exp_two hv (.inl rfl) (asg_pos ht) (side_tok hT hl.1 (iha _ hl.1)) (side_tok hT hl.2.1 (ihb _ hl.2.1)))
 | @cond a b c ha hb hc iha ihb ihc =>
  intro i hp
  obtain ⟨hi, ⟨pl, kv, hy⟩, _, _, hl⟩ := hp.node
  obtain ⟨_, _, _, _, _, _, _, _, _, _, hv⟩ := node_at hT hi hy
  rw [PlL, PlL, PlL] at hl
  unfold toks
  rw [lay_cond, List.map_append, List.map_cons, List.map_append, List.map_cons]
  exact layI_exp hT hi hy Zf7 (exp_cond hv rfl (side_tok hT hl.1 (iha _ hl.1)) (side_tok hT hl.2.1 (ihb _ hl.2.1)) (side_tok hT hl.2.2.1 (ihc _ hl.2.2.1)))
 | @bin k tx a b hk ht ha hb iha ihb =>
  intro i hp
  obtain ⟨hi, ⟨pl, kv, hy⟩, _, _, hl⟩ := hp.node
  obtain ⟨_, _, _, _, _, _, _, _, _, _, hv⟩ := node_at hT hi hy
  rw [PlL, PlL] at hl
  unfold toks
  rw [lay_bin, List.map_append, List.map_cons]
  exact layI_exp hT hi hy Zf7 (exp_two hv (.inr rfl) (lev_pos hk ht) (side_tok hT hl.1 (iha _ hl.1)) (side_tok hT hl.2.1 (ihb _ hl.2.1)))
 | @un tx a ht ha iha =>
  intro i hp
  obtain ⟨hi, ⟨pl, kv, hy⟩, _, _, hl⟩ := hp.node
  obtain ⟨_, _, _, _, _, _, _, _, _, _, hv⟩ := node_at hT hi hy
  rw [PlL] at hl
  unfold toks
  rw [lay_un, List.map_cons]
  exact layI_exp hT hi hy Zf7 (exp_un hv rfl (mem_pos ht Zf6) (side_tok hT hl.1 (iha _ hl.1)))
 | @call tx l ht hl0 ih =>
  intro i hp
  obtain ⟨hi, ⟨pl, kv, hy⟩, _, hln, hl⟩ := hp.node
  obtain ⟨_, _, _, _, _, _, _, _, _, _, hv⟩ := node_at hT hi hy
  obtain ⟨k1, k2⟩ := kids_lay hl hl0 ih
  unfold toks
  rw [lay_call, List.map_cons, List.map_cons, List.map_append, com_toks]
  exact layI_exp hT hi hy Zf7 (exp_call rfl (ht.elim nam_pos typ_pos) hv k1 k2 Zfb)
 | @fld tx a ht ha iha =>
  intro i hp
  obtain ⟨hi, ⟨pl, kv, hy⟩, _, _, hl⟩ := hp.node
  obtain ⟨_, _, _, _, _, _, _, _, _, _, hv⟩ := node_at hT hi hy
  rw [PlL] at hl
  unfold toks
  rw [lay_fld, List.map_append]
  exact layI_exp hT hi hy Zf7 (exp_fld hv rfl (nam_pos ht) (side_tok hT hl.1 (iha _ hl.1)))
 | @nam tx ht =>
  intro i hp
  obtain ⟨hi, ⟨pl, kv, hy⟩, _, _, hl⟩ := hp.node
  unfold toks
  rw [lay_nam]
  exact layI_exp hT hi hy Zf7 (exp_name (.inl rfl) (nam_pos ht))
 | @int x h0 hm =>
  intro i hp
  obtain ⟨hi, ⟨pl, kv, hy⟩, hr, _, hl⟩ := hp.node
  unfold toks
  rw [lay_int]
  have := layI_exp hT hi hy Zf7 (exp_int (lv := lv) (pb := pb) (ty := []) (tx := []) (kv := kv) (pl := pl) hpow rfl ⟨by omega, hr.2⟩)
  unfold wholeT' at this
  rw [if_neg Zf7] at this
  exact this
 | @flt x h0 =>
  intro i hp
  obtain ⟨hi, ⟨pl, kv, hy⟩, hr, _, hl⟩ := hp.node
  unfold toks
  rw [lay_flt]
  exact layI_exp hT hi hy Zf7 (exp_flt hpow rfl hr)
 | @boo tx ht =>
  intro i hp
  obtain ⟨hi, ⟨pl, kv, hy⟩, _, _, hl⟩ := hp.node
  unfold toks
  rw [lay_boo]
  exact layI_exp hT hi hy Zf7 (exp_name (.inr rfl) (mem_pos ht Zf6))
theorem V_lay (hT : RdT R lv N) (hpow : PowE R) {p : Pt} (h : WV p) : ∀ i, PlP N p i → LayI lv pb R (i : Nat) (toks p) := by
 intro i hp
 cases h with
 | @v0 tx ht =>
  obtain ⟨hi, ⟨pl, kv, hy⟩, _, _, hl⟩ := hp.node
  unfold toks
  rw [lay_v0]
  exact layI_v0 hT hi hy rfl (nam_pos ht) (by rw [kidsA])
 | @v1 tx e ht he =>
  obtain ⟨hi, ⟨pl, kv, hy⟩, _, _, hl⟩ := hp.node
  rw [PlL] at hl
  unfold toks
  rw [lay_v1, List.map_cons, List.map_cons]
  exact layI_v1 hT hi hy rfl (nam_pos ht) (by rw [kidsA, kidsA]) (E_lay hT hpow he _ hl.1)
theorem M_lay (hT : RdT R lv N) {p : Pt} (h : WM p) : ∀ i, PlP N p i → LayI lv pb R (i : Nat) (toks p) := by
 intro i hp
 cases h with
 | @mk ty tx ht hn =>
  obtain ⟨hi, ⟨pl, kv, hy⟩, _, _, hl⟩ := hp.node
  unfold toks
  rw [lay_prm]
  exact layI_prm hT hi hy rfl (typ_pos ht) (nam_pos hn)
theorem decl_lay (hT : RdT R lv N) (hpow : PowE R) {ty tx : List UInt8} {l : List Pt} (hty : isTyp ty = true) (hv : ∀ v ∈ l, WV v) : ∀ i, PlP N (.mk 2 ty tx 0 0 l) i → LayI lv pb R (i : Nat) (toks (.mk 2 ty tx 0 0 l)) := by
 intro i hp
 obtain ⟨hi, ⟨pl, kv, hy⟩, _, hln, hl⟩ := hp.node
 obtain ⟨k1, k2⟩ := kids_lay (lv := lv) (pb := pb) (R := R) hl hv (fun p hm => V_lay hT hpow (hv p hm))
 have := layI_decl hT hi hy rfl (typ_pos hty) k1 k2 Zfb
 unfold toks
 rw [lay_decl, List.map_append, List.map_cons, List.map_append, com_toks]
 by_cases h0 : tx = []
 ·rw [if_pos h0] at this ⊢
  exact this
 ·rw [if_neg h0] at this ⊢
  exact this
theorem S_lay (hT : RdT R lv N) (hpow : PowE R) {p : Pt} (h : WS p) : ∀ i, PlP N p i → LayI lv pb R (i : Nat) (toks p) := by
 induction h with
 | @blk l hl0 ih =>
  intro i hp
  obtain ⟨hi, ⟨pl, kv, hy⟩, _, hln, hl⟩ := hp.node
  obtain ⟨k1, k2⟩ := kids_lay hl hl0 ih
  unfold toks
  rw [lay_blk, List.map_cons, List.map_append, flat_toks]
  exact layI_blk6 hT hi hy rfl k1 k2 Zfb
 | decl ht hty hne hv => exact decl_lay hT hpow hty hv
 | @if2 a s ha hs ihs =>
  intro i hp
  obtain ⟨hi, ⟨pl, kv, hy⟩, _, _, hl⟩ := hp.node
  obtain ⟨_, _, _, _, _, _, _, _, _, _, hv⟩ := node_at hT hi hy
  rw [PlL, PlL] at hl
  unfold toks
  rw [lay_if2, List.map_cons, List.map_cons, List.map_append, List.map_cons]
  exact layI_stm hT hi hy Zf7 (stm_if2 hv rfl (E_lay hT hpow ha _ hl.1) (ihs _ hl.2.1))
 | @if3 a s t ha hs ho ht ihs iht =>
  intro i hp
  obtain ⟨hi, ⟨pl, kv, hy⟩, _, _, hl⟩ := hp.node
  obtain ⟨_, _, _, _, _, _, _, _, _, _, hv⟩ := node_at hT hi hy
  rw [PlL, PlL, PlL] at hl
  unfold toks
  rw [lay_if3, List.map_cons, List.map_cons, List.map_append, List.map_cons, List.map_append, List.map_cons]
  exact layI_stm hT hi hy Zf7 (stm_if3 hv rfl (E_lay hT hpow ha _ hl.1) (ihs _ hl.2.1) (iht _ hl.2.2.1))
 | @«for» tx x y s ht hx hy0 hs ihs =>
  intro i hp
  obtain ⟨hi, ⟨pl, kv, hy⟩, _, _, hl⟩ := hp.node
  obtain ⟨_, _, _, _, _, _, _, _, _, _, hv⟩ := node_at hT hi hy
  rw [PlL, PlL, PlL] at hl
  obtain ⟨x1, _, x3⟩ := hl.1.kd
  obtain ⟨y1, _, y3⟩ := hl.2.1.kd
  obtain ⟨_, _, xr, _⟩ := hl.1.node
  obtain ⟨_, _, yr, _⟩ := hl.2.1.node
  cases hx with
  | mk hx1 hx2 =>
  cases hy0 with
  | mk hy1 hy2 =>
  unfold toks
  rw [lay_for]
  simp only [List.map_cons, List.map_append, bnT_t]
  exact layI_stm hT hi hy Zf7 (stm_for hT hpow hv rfl (nam_pos ht) x1 y1 x3 y3 ⟨hx2, xr.2⟩ ⟨hy2, yr.2⟩ (ihs _ hl.2.2.1))
 | ret0 =>
  intro i hp
  obtain ⟨hi, ⟨pl, kv, hy⟩, _, hln, hl⟩ := hp.node
  obtain ⟨_, _, _, _, _, _, _, _, _, _, hv⟩ := node_at hT hi hy
  unfold toks
  rw [lay_ret0]
  exact layI_stm hT hi hy Zf7 (stm_more (K := []) (ks := kidsA (i + 1) []) (.inl ⟨rfl, rfl⟩) hv (by rw [kidsA]; rfl) (fun j hj => by rw [kidsA] at hj; cases hj) (by rw [kidsA]; exact Nat.zero_le _))
 | @ret1 a ha =>
  intro i hp
  obtain ⟨hi, ⟨pl, kv, hy⟩, _, hln, hl⟩ := hp.node
  obtain ⟨_, _, _, _, _, _, _, _, _, _, hv⟩ := node_at hT hi hy
  obtain ⟨k1, k2⟩ := kids_lay (lv := lv) (pb := pb) (R := R) (P := fun _ => True) hl (fun _ _ => trivial) (fun p hm => by rw [List.mem_singleton.1 hm]; exact E_lay hT hpow ha)
  have := layI_stm hT hi hy Zf7 (stm_more (.inl ⟨rfl, rfl⟩) hv k1 k2 Zfb)
  unfold toks
  rw [lay_ret1, List.map_cons, List.map_append]
  simp only [List.map_cons, List.map_nil, List.flatten_cons, List.flatten_nil, List.append_nil] at this
  exact this
 | disc =>
  intro i hp
  obtain ⟨hi, ⟨pl, kv, hy⟩, _, hln, hl⟩ := hp.node
  obtain ⟨_, _, _, _, _, _, _, _, _, _, hv⟩ := node_at hT hi hy
  unfold toks
  rw [lay_disc]
  exact layI_stm hT hi hy Zf7 (stm_more (K := []) (ks := kidsA (i + 1) []) (.inr (.inl ⟨rfl, rfl⟩)) hv (by rw [kidsA]; rfl) (fun j hj => by rw [kidsA] at hj; cases hj) (by rw [kidsA]; exact Nat.zero_le _))
 | @exp a ha =>
  intro i hp
  obtain ⟨hi, ⟨pl, kv, hy⟩, _, hln, hl⟩ := hp.node
  obtain ⟨_, _, _, _, _, _, _, _, _, _, hv⟩ := node_at hT hi hy
  obtain ⟨k1, k2⟩ := kids_lay (lv := lv) (pb := pb) (R := R) (P := fun _ => True) hl (fun _ _ => trivial) (fun p hm => by rw [List.mem_singleton.1 hm]; exact E_lay hT hpow ha)
  have := layI_stm hT hi hy Zf7 (stm_more (.inr (.inr (.inl ⟨rfl, rfl⟩))) hv k1 k2 Zfb)
  unfold toks
  rw [lay_exp, List.map_append]
  simp only [List.map_cons, List.map_nil, List.flatten_cons, List.flatten_nil, List.append_nil] at this
  exact this
 | emp =>
  intro i hp
  obtain ⟨hi, ⟨pl, kv, hy⟩, _, hln, hl⟩ := hp.node
  obtain ⟨_, _, _, _, _, _, _, _, _, _, hv⟩ := node_at hT hi hy
  unfold toks
  rw [lay_emp]
  exact layI_stm hT hi hy Zf7 (stm_more (K := []) (ks := kidsA (i + 1) []) (.inr (.inr (.inr ⟨rfl, rfl⟩))) hv (by rw [kidsA]; rfl) (fun j hj => by rw [kidsA] at hj; cases hj) (by rw [kidsA]; exact Nat.zero_le _))
theorem kidsA_app : ∀ (a b : List Pt) (i : Nat), kidsA i (a ++ b) = kidsA i a ++ kidsA (i + cntL a) b
 | [], b, i => by rw [List.nil_append, kidsA, cntL, List.nil_append, Nat.add_zero]
 | p :: a, b, i => by
  rw [List.cons_append, kidsA, kidsA, cntL, kidsA_app a b, List.cons_append, Nat.add_assoc]
theorem PlL_app {N : List Nv} : ∀ {a b : List Pt} {i : Nat}, PlL N (a ++ b) i → PlL N a i ∧ PlL N b (i + cntL a)
 | [], b, i, h => by rw [cntL]; exact ⟨by rw [PlL]; trivial, h⟩
 | p :: a, b, i, h => by
  rw [List.cons_append, PlL] at h
  obtain ⟨h1, h2⟩ := PlL_app h.2
  rw [PlL, cntL, ← Nat.add_assoc]
  exact ⟨⟨h.1, h1⟩, h2⟩
theorem T_lay (hT : RdT R lv N) (hpow : PowE R) {p : Pt} (h : WT p) : ∀ i, PlP N p i → LayI lv pb R (i : Nat) (toks p) := by
 cases h with
 | decl ht hty hne hv => exact decl_lay hT hpow hty hv
 | @func ty tx ps l hty hn hps hl0 =>
  intro i hp
  obtain ⟨hi, ⟨pl, kv, hy⟩, _, hln, hl⟩ := hp.node
  obtain ⟨p1, p2⟩ := PlL_app hl
  rw [PlL] at p2
  obtain ⟨k1, k2⟩ := kids_lay (lv := lv) (pb := pb) (R := R) p1 hps (fun p hm => M_lay hT (hps p hm))
  have hb := S_lay (pb := pb) hT hpow (WS.blk hl0) _ p2.1
  unfold toks
  rw [lay_func, List.map_cons, List.map_cons, List.map_cons, List.map_append, List.map_cons, com_toks]
  exact layI_func hT hi hy rfl (typ_pos hty) (nam_pos hn) (kidsA_app _ _ _) k1 k2 (by rw [kids_len]; rw [List.length_append] at hln; omega) hb
theorem H_lay (hT : RdT R lv N) (hpow : PowE R) {p : Pt} (h : WH p) : ∀ i, PlP N p i → LayI lv pb R (i : Nat) (toks p) := by
 cases h with
 | @mk l hl0 =>
  intro i hp
  obtain ⟨hi, ⟨pl, kv, hy⟩, _, hln, hl⟩ := hp.node
  obtain ⟨k1, k2⟩ := kids_lay (lv := lv) (pb := pb) (R := R) hl hl0 (fun p hm => T_lay hT hpow (hl0 p hm))
  unfold toks
  rw [lay_sh, flat_toks]
  exact layI_sh1 hT hi hy rfl k1 k2 Zfb
end
end Go.Proofs.YtbinaeemcidicaaGreatDoor
namespace Go.Proofs.YtbinaeemcidicaaGreatDoor
theorem WS.kd_ok {p : Pt} (h : WS p) : p.kd = 2 ∨ (6 ≤ p.kd ∧ p.kd ≤ 12) := by
 cases h <;> simp [Pt.kd]
theorem WE.kd_ok {p : Pt} (h : WE p) : 13 ≤ p.kd ∧ p.kd ≤ 22 := by
 cases h <;> simp [Pt.kd]
theorem fits_of {w : Nat} {p : Pt} (h : WKP w p) : fitsK w p.kd = true := by
 unfold WKP at h
 unfold fitsK
 by_cases c0 : w = 0
 ·rw [if_pos c0] at h ⊢
  cases h with
  | decl _ _ _ _ => rfl
  | func _ _ _ _ => rfl
 rw [if_neg c0] at h ⊢
 by_cases c1 : w = 1
 ·rw [if_pos c1] at h ⊢
  cases h with
  | v0 _ => rfl
  | v1 _ _ => rfl
 rw [if_neg c1] at h ⊢
 by_cases c2 : w = 2
 ·rw [if_pos c2] at h ⊢
  cases h with
  | mk _ _ => rfl
 rw [if_neg c2] at h ⊢
 by_cases c3 : w = 3
 ·rw [if_pos c3] at h ⊢
  rw [h.2]
  rfl
 rw [if_neg c3] at h ⊢
 by_cases c4 : w = 4
 ·rw [if_pos c4] at h ⊢
  have := h.kd_ok
  simp only [Bool.or_eq_true, Bool.and_eq_true, decide_eq_true_eq]
  exact this
 rw [if_neg c4] at h ⊢
 by_cases c6 : w = 6
 ·rw [if_pos c6] at h ⊢
  obtain ⟨x, rfl, _⟩ := h
  rfl
 rw [if_neg c6] at h ⊢
 have := h.kd_ok
 simp only [Bool.and_eq_true, decide_eq_true_eq]
 exact this
theorem flt_head {kd : Int} {ty tx : List UInt8} {nm pl : Int} {ks : List Pt} {i : Nat} {l : List Nd} (h : fltP (.mk kd ty tx nm pl ks) i = (l.drop i).take (cntP (.mk kd ty tx nm pl ks))) (hi : i + cntP (.mk kd ty tx nm pl ks) ≤ l.length) :
  i < l.length ∧ l.getD i nd0 = ⟨kd, ty, tx, nm, kidsA (i + 1) ks, pl⟩ ∧ fltL ks (i + 1) = (l.drop (i + 1)).take (cntL ks) := by
 rw [cntP] at h hi
 have hl : i < l.length := by omega
 rw [fltP, List.drop_eq_getElem_cons hl, List.take_succ_cons, List.cons.injEq] at h
 refine ⟨hl, ?_, h.2⟩
 rw [h.1]
 simp [List.getD, hl]
theorem flt_split {p : Pt} {ks : List Pt} {i : Nat} {l : List Nd} (h : fltL (p :: ks) i = (l.drop i).take (cntL (p :: ks))) : fltP p i = (l.drop i).take (cntP p) ∧ fltL ks (i + cntP p) = (l.drop (i + cntP p)).take (cntL ks) := by
 rw [fltL, cntL, List.take_add, List.drop_drop] at h
 have hl : (fltP p i).length = cntP p := flt_len p i
 by_cases hlen : cntP p ≤ (l.drop i).length
 ·exact List.append_inj h (by rw [hl, List.length_take, Nat.min_eq_left hlen])
 ·have e := congrArg List.length h
  rw [List.length_append, List.length_append, flt_len, fltL_len, List.length_take, List.length_take, List.length_drop] at e
  rw [List.length_drop] at hlen
  omega
theorem chkK_full {l : List Nd} {f : Bool → Nat → Option (Pt × Nat)} : ∀ (ks : List Pt) (ws : List Nat) (nx : Nat), ws.length = ks.length → fltL ks nx = (l.drop nx).take (cntL ks) → nx + cntL ks ≤ l.length →
  (∀ j, j < ks.length → fitsK (ws.getD j 0) (ks.getD j pt0).kd = true ∧ ∀ i, fltP (ks.getD j pt0) i = (l.drop i).take (cntP (ks.getD j pt0)) → i + cntP (ks.getD j pt0) ≤ l.length → f (decide (ws.getD j 0 = 6)) i = some (ks.getD j pt0, i + cntP (ks.getD j pt0))) →
  chkK f l ws (kidsA nx ks) nx = some (ks, nx + cntL ks)
 | [], [], nx, _, _, _, _ => by
  rw [kidsA, chkK]
  ·rfl
  ·simp
 | [], w :: ws, nx, h, _, _, _ => by simp at h
 | p :: ks, [], nx, h, _, _, _ => by simp at h
 | p :: ks, w :: ws, nx, h, hf, hl, hk => by
  obtain ⟨h1, h2⟩ := flt_split hf
  rw [cntL] at hl
  have hp := cntP_pos p
  obtain ⟨k1, k2⟩ := hk 0 Zgh
  simp only [List.getD_cons_zero] at k1 k2
  have hkd : (l.getD nx nd0).kd = p.kd := by
   obtain ⟨kd, ty, tx, nm, pl, ks0⟩ := p
   obtain ⟨_, e, _⟩ := flt_head h1 Zf7
   rw [e]
   rfl
  rw [kidsA, chkK, if_neg, k2 nx h1 Zf7]
  ·dsimp only
   rw [chkK_full ks ws (nx + cntP p) Zl3 h2 Zf7 (fun j hj => by
    have := hk (j + 1) Zmg
    simpa using this), cntL, ← Nat.add_assoc]
   rfl
  ·rw [hkd, k1]
   simp
   omega
theorem KidsOk.get {L : Bool} {ws : List Nat} {ks : List Pt} (h : KidsOk L ws (erL ks)) : ws.length = ks.length ∧ ∀ j, j < ks.length → WKP (ws.getD j 0) (erP (ks.getD j pt0)) ∧ (ws.getD j 0 = 0 → L = false) ∧ (ws.getD j 0 = 3 ∨ ws.getD j 0 = 4 → L = true) := by
 obtain ⟨h1, h2⟩ := h
 have hl : (erL ks).length = ks.length := by rw [erL_map, List.length_map]
 refine ⟨by omega, fun j hj => ?_⟩
 have := h2 j Zf7
 rw [show (erL ks).getD j pt0 = erP (ks.getD j pt0) by rw [erL_map]; simp [List.getD, hj]] at this
 exact this
theorem last_er (n : Nd) (ks : List Pt) : lastK n (erL ks) = lastK n ks := by
 unfold lastK
 have e1 : (erL ks).length = ks.length := by rw [erL_map, List.length_map]
 have e2 : ∀ j, opnP ((erL ks).getD j pt0) = opnP (ks.getD j pt0) := fun j => by
  rw [erL_map]
  by_cases hj : j < ks.length
  ·simp only [List.getD, List.getElem?_map, List.getElem?_eq_getElem hj, Option.map_some, Option.getD_some, opn_er]
  ·simp only [List.getD, List.getElem?_map, List.getElem?_eq_none (Nat.le_of_not_lt hj), Option.map_none]
 have e3 : ((erL ks).getD 0 pt0).kd = (ks.getD 0 pt0).kd := by
  cases ks with
  | nil => rw [erL]
  | cons p ks => rw [erL]; simp only [List.getD_cons_zero, erP_kd]
 rw [e1, e2, e3]
theorem hgtL_get : ∀ {ks : List Pt} {j : Nat}, j < ks.length → hgtP (ks.getD j pt0) + 1 ≤ hgtL ks
 | [], _, h => by simp at h
 | p :: ks, 0, _ => by rw [hgtL]; exact Nat.le_max_left _ _
 | p :: ks, j + 1, h => by
  have := hgtL_get (ks := ks) (j := j) Zl3
  rw [hgtL]
  exact Nat.le_trans this (Nat.le_max_right _ _)
theorem getD_memP {ks : List Pt} {j : Nat} (h : j < ks.length) : ks.getD j pt0 ∈ ks := by
 simp only [List.getD, List.getElem?_eq_getElem h, Option.getD_some]
 exact List.getElem_mem h
theorem chk_of_inv {l : List Nd} {b : Nat} {kd : Int} {ty tx : List UInt8} {nm pl : Int} {ks : List Pt} {loc wide : Bool} {i : Nat} (hiv : InvOk ⟨kd, ty, tx, nm, kidsA (i + 1) ks, pl⟩ loc wide (erL ks))
  (hf : fltP (.mk kd ty tx nm pl ks) i = (l.drop i).take (cntP (.mk kd ty tx nm pl ks))) (hl : i + cntP (.mk kd ty tx nm pl ks) ≤ l.length)
  (ih : ∀ j, j < ks.length → ∀ (w : Nat) (loc : Bool) (i : Nat), WKP w (erP (ks.getD j pt0)) → (w = 0 → loc = false) → (w = 3 ∨ w = 4 → loc = true) → fltP (ks.getD j pt0) i = (l.drop i).take (cntP (ks.getD j pt0)) → i + cntP (ks.getD j pt0) ≤ l.length → chkN l b loc (decide (w = 6)) i = some (ks.getD j pt0, i + cntP (ks.getD j pt0))) :
  chkN l (b + 1) loc wide i = some (.mk kd ty tx nm pl ks, i + cntP (.mk kd ty tx nm pl ks)) := by
 obtain ⟨h1, h2, h3⟩ := flt_head hf hl
 obtain ⟨ws, k1, k2, k3, k4⟩ := hiv
 obtain ⟨k5, k6⟩ := k4.get
 rw [last_er] at k3
 rw [cntP] at hl
 have hkl : (kidsA (i + 1) ks).length = (erL ks).length := by rw [kids_len, erL_map, List.length_map]
 rw [chkN, if_neg Zf7]
 dsimp only
 rw [h2]
 dsimp only at k1 k2 k3 k6 ⊢
 rw [hkl, k1]
 dsimp only
 rw [if_neg (by rw [k2]; decide), chkK_full ks ws (i + 1) k5 h3 Zf7 (fun j hj => by
  obtain ⟨a1, a2, a3⟩ := k6 j hj
  exact ⟨by rw [← erP_kd]; exact fits_of a1, fun i' e1 e2 => ih j hj _ _ i' a1 a2 a3 e1 e2⟩)]
 dsimp only
 rw [if_neg (by rw [k3]; decide), cntP]
 congr 2
 omega
theorem chk_full {l : List Nd} : ∀ (b : Nat) (p : Pt) (w : Nat) (loc : Bool) (i : Nat), rgP p → hgtP p < b → WKP w (erP p) → (w = 0 → loc = false) → (w = 3 ∨ w = 4 → loc = true) → fltP p i = (l.drop i).take (cntP p) → i + cntP p ≤ l.length →
  chkN l b loc (decide (w = 6)) i = some (p, i + cntP p)
 | 0, p, w, loc, i, _, h, _, _, _, _, _ => by omega
 | b + 1, .mk kd ty tx nm pl ks, w, loc, i, hr, hh, hW, h0, h34, hf, hl => by
  rw [rgP] at hr
  rw [hgtP] at hh
  rw [erP_mk] at hW
  exact chk_of_inv (inv_W hW rfl hr.1 h0 h34) hf hl fun j hj w loc i a1 a2 a3 a4 a5 =>
   chk_full b _ w loc i ((rgL_all ks).1 hr.2.2 _ (getD_memP hj)) (by have := hgtL_get hj; omega) a1 a2 a3 a4 a5
theorem check_full {N : List Nv} {ps : List Pt} (hN : N.map Nv.nd = fltP (.mk 1 [] [] 0 0 ps) 0) (hl : N.length ≤ 4096) (hw : ∀ p ∈ erL ps, WT p) (hr : rgL ps) (hh : hgtL ps ≤ 32) : checkP N = some (.mk 1 [] [] 0 0 ps) := by
 have hlen : N.length = cntP (.mk 1 [] [] 0 0 ps) := by rw [← flt_len _ 0, ← hN, List.length_map]
 have hpos := cntP_pos (.mk 1 [] [] 0 0 ps)
 have hf : fltP (.mk 1 [] [] 0 0 ps) 0 = ((N.map Nv.nd).drop 0).take (cntP (.mk 1 [] [] 0 0 ps)) := by
  rw [List.drop_zero, ← hlen, List.take_of_length_le (by rw [List.length_map]; omega), hN]
 have hll : 0 + cntP (.mk 1 [] [] 0 0 ps) ≤ (N.map Nv.nd).length := by rw [List.length_map, hlen]; omega
 obtain ⟨_, h2, _⟩ := flt_head hf hll
 have hc : chkN (N.map Nv.nd) 33 false false 0 = some (.mk 1 [] [] 0 0 ps, 0 + cntP (.mk 1 [] [] 0 0 ps)) := by
  refine chk_of_inv ⟨List.replicate (erL ps).length 0, rfl, sK_of (sA_no Zf6 (Int.le_refl 0) (.inl rfl)) Zej, by unfold lastK; simp, .all rfl hw (fun _ => rfl) (fun e => by omega)⟩ hf hll ?_
  intro j hj w loc i a1 a2 a3 a4 a5
  exact chk_full 32 _ w loc i ((rgL_all ps).1 hr _ (getD_memP hj)) (by have := hgtL_get hj; omega) a1 a2 a3 a4 a5
 unfold checkP
 rw [map_getD] at h2
 rw [if_neg (fun e => e.elim (fun e => by omega) fun e => e.elim (fun e => by omega) fun e => e (congrArg Nd.kd h2)), hc]
 dsimp only
 rw [if_pos Zf7]
mutual
theorem cnt_er : ∀ p : Pt, cntP (erP p) = cntP p
 | .mk kd ty tx nm pl ks => by rw [erP, cntP, cntP, cnt_erL ks]
theorem cnt_erL : ∀ l : List Pt, cntL (erL l) = cntL l
 | [] => by rw [erL]
 | p :: l => by rw [erL, cntL, cntL, cnt_er p, cnt_erL l]
end
theorem kids_er : ∀ (l : List Pt) (b : Nat), kidsA b (erL l) = kidsA b l
 | [], b => by rw [erL]
 | p :: l, b => by rw [erL, kidsA, kidsA, cnt_er, kids_er l]
theorem len_cnt : ∀ l : List Pt, l.length ≤ cntL l
 | [] => Nat.zero_le _
 | p :: l => by
  have := len_cnt l
  have := cntP_pos p
  rw [cntL, List.length_cons]
  omega
mutual
theorem pl_of {N : List Nv} (hN : N.length ≤ 1000000) : ∀ (p : Pt) (i : Nat), rgP p → fltP p i = ((N.map Nv.nd).drop i).take (cntP p) → i + cntP p ≤ N.length → PlP N (erP p) i
 | .mk kd ty tx nm pl ks, i, hr, hf, hl => by
  obtain ⟨h1, h2, h3⟩ := flt_head hf (by rw [List.length_map]; exact hl)
  rw [rgP] at hr
  rw [cntP] at hl
  rw [List.length_map] at h1
  rw [map_getD] at h2
  have hlen := len_cnt ks
  rw [erP, PlP]
  refine ⟨h1, ⟨pl, (N.getD i nv0).kv, ?_⟩, hr.2.1, by rw [erL_map, List.length_map]; omega, pl_ofL hN ks (i + 1) hr.2.2 h3 Zf7⟩
  rw [kids_er, ← h2]
theorem pl_ofL {N : List Nv} (hN : N.length ≤ 1000000) : ∀ (l : List Pt) (i : Nat), rgL l → fltL l i = ((N.map Nv.nd).drop i).take (cntL l) → i + cntL l ≤ N.length → PlL N (erL l) i
 | [], i, _, _, _ => by rw [erL, PlL]; trivial
 | p :: l, i, hr, hf, hl => by
  obtain ⟨h1, h2⟩ := flt_split hf
  rw [cntL] at hl
  rw [rgL] at hr
  rw [erL, PlL, cnt_er]
  exact ⟨pl_of hN p i hr.1 h1 Zf7, pl_ofL hN l (i + cntP p) hr.2 h2 Zf7⟩
end
end Go.Proofs.YtbinaeemcidicaaGreatDoor
namespace Go.Proofs.YtbinaeemcidicaaGreatDoor
open Go.PB Go.RowKit
attribute [local irreducible] Go.Calls
def txt (p : Pt) : List UInt8 := (putsS ([], []) (toks p)).1
section
variable {lv kv : Value} {pb : Nat} {R : List Ent} {l : List Nv} {i : Nat} {nm pl : Int} {ty tx : List UInt8}
theorem lay_sh0 (hT : RdT R lv l) (hi : i < l.length) (hy : l.getD i nv0 = ⟨⟨1, ty, tx, nm, [], pl⟩, kv⟩) {M : List Nat} {w0 w : World} {A : List Ent} {s : PS} (hst : St M w0 w (⟨pb, true, prO lv pb s none⟩ :: A)) (hR : ∀ e ∈ R, e ∈ A) :
  Calls Tryz.prog 17 #[ptr pb, .int .i64 (i : Nat)] w (GivesS (fun _ : Unit => .tuple #[]) (fun _ => True) M w0 fun _ => ⟨pb, true, prO lv pb s none⟩ :: A) := by
 (obtain ⟨tb, toff, tc, tarr, tet, tfr, twr, rfl, htm, ga, hv⟩ := node_at hT hi hy; obtain ⟨q, c, rfl⟩ := hv.len; have htA := hR _ htm)
 (refine calls_of_W (vs := [ptr pb, .int .i64 ((i : Nat) : Int)]) Tryz.func17 rfl Tryz.ntmps17 (Nat.le_of_ble_eq_true rfl) hst.fromHere ?_; simp only [argL])
 repeat' (first | (apply gL; first | (apply Wl.ev rfl rfl; exact Zlk) | ((show Wl _ _ _ _ _ _ _ (⟨none, .store _ (.tmp 4) (.tmp 16), _, _, _, _⟩ :: _) _ _); refine wl_storeWhole rfl rfl rfl (szT rfl) Zq Zf Zmi ?_) | apply Wl.nil | (refine Zbd ?_; intro b)) | (apply gQ; first | (apply Wq.ev rfl rfl; exact Zlk)) | (apply lW; first | apply W.seq | ((show W _ _ _ _ _ _ (.inl (.loop _) :: _) _ _); refine W.loop (X := Unit) (fun x => [(0, ptr pb), (25, .slice q 0 c), (26, .int .i64 0), (27, .int .i64 0)]) (fun x => ⟨pb, true, prO (.slice (some ⟨tb, toff, none⟩) l.length tc) pb s none⟩ :: A) (fun _ => True) (fun _ => 0) () trivial Zn Zbf ?_) | apply W.region | apply W.block | (refine Zbk ?_)))
 all_goals first | contradiction | skip
 rintro ⟨⟩ _
 repeat' (first | (apply gL; first | (apply Wl.ev rfl rfl; exact Zev) | apply Wl.nil) | (apply gQ; first | (apply Wq.ev rfl rfl; exact Zev)) | (apply lW; first | apply W.seq | apply W.region | apply W.blk | (refine Zcm ?_) | (refine Zbg ?_) | (refine Zdl ?_; intro w hs)))
 all_goals first | exact GivesS.of hst hs () trivial rfl Ze | contradiction | exact Zy
end
theorem prH_none (lv : Value) (pb : Nat) (s : PS) (A : List Ent) : prH lv pb s none A = ⟨pb, true, prO lv pb s none⟩ :: A := by
 show _ :: (A ++ []) = _
 rw [List.append_nil]
theorem puts_ne {ts : List (List UInt8)} {t : List UInt8} (h : t ∈ ts) (h0 : 0 < t.length) (s : PS) : (putsS s ts).1 ≠ [] := by
 obtain ⟨a, b, rfl⟩ := List.append_of_mem h
 intro e
 have h1 : (putS (putsS s a) t).1.length ≤ (putsS s (a ++ t :: b)).1.length := by
  rw [putsS_app]
  exact putsS_le _ b
 rw [e] at h1
 have h2 : (putS (putsS s a) t).1.length = (putsS s a).1.length + ((sepB (putsS s a).2).length + t.length) := by
  show (_ ++ (_ ++ t)).length = _
  rw [List.length_append, List.length_append]
 rw [h2] at h1
 simp only [List.length_nil] at h1
 omega
theorem WT.ne {p : Pt} (h : WT p) : ∃ t ∈ toks p, 0 < t.length := by
 cases h with
 | @decl ty tx l ht hty hne hv => exact ⟨[59], by unfold toks; rw [lay_decl]; simp [sg], by decide⟩
 | @func ty tx ps l hty hn hps hl0 => exact ⟨[40], by unfold toks; rw [lay_func]; simp [sg], by decide⟩
theorem txt_ne {p : Pt} {l : List Pt} (h : ∀ p ∈ l, WT p) (hl : p ∈ l) : txt (.mk 1 [] [] 0 0 l) ≠ [] := by
 obtain ⟨t, ht, h0⟩ := (h p hl).ne
 refine puts_ne ?_ h0 _
 unfold toks
 rw [lay_sh, flat_toks]
 exact List.mem_flatten.2 ⟨_, List.mem_map.2 ⟨p, hl, rfl⟩, ht⟩
section
variable {lv : Value} {N : List Nv} {M : List Nat} {w0 w : World} {A : List Ent}
theorem Print_ok (hz : ∀ y ∈ N, y.nd.ks.length ≤ 1000000) (hst : St M w0 w A) (hT : RdT A lv N) (hpow : PowE A) {p p0 : Pt} (hc : checkP N = some p0) (hw : WH p) (hp : PlP N p 0) (hb : (txt p).length ≤ 1000000000) :
  Calls Tryz.prog 8 #[.agg [lv].toArray] w (GivesS (fun _ : Unit => .tuple #[st (txt p), .int .i64 0]) (fun _ => True) M w0 fun _ => A) := by
 obtain ⟨q, c, rfl⟩ := hT.1.len
 have hlay := fun pb => H_lay (pb := pb) hT hpow hw 0 hp
 cases hw with
 | @mk ks hks =>
 refine calls_of_W (vs := [.agg [.slice q N.length c].toArray]) Tryz.func8 rfl Tryz.ntmps8 (Nat.le_of_ble_eq_true rfl) hst.fromHere ?_
 simp only [argL]
 cases ks with
 | nil =>
  obtain ⟨hpl, ⟨pl, kv, hy⟩, _⟩ := hp.node
  rw [kidsA] at hy
  have ht : txt (.mk 1 [] [] 0 0 []) = [] := by
   unfold txt toks
   rw [lay_sh]
   rfl
  rw [ht]
  repeat' (first | (apply gL; first | (apply Wl.ev rfl rfl; exact Zev) | (refine lB 1 ?_; refine wl_box rfl rfl rfl rfl ?_; intro b1) | (refine lC 7 9 ?_; refine wl_callS rfl rfl has9 rfl Zf4 ?_; rintro ⟨⟩ -; rw [hc]; dsimp only [errC]) | (refine lB 14 ?_; refine wl_box rfl rfl rfl rfl ?_; intro pb) | (refine lC 16 17 ?_; refine wl_callS rfl rfl has17 rfl (fun w hs => lay_sh0 (i := 0) (s := ([], [])) (pb := pb) hT hpl hy hs (fun e he => List.Mem.tail _ he)) ?_; rintro ⟨⟩ -) | (refine lC 20 18 ?_; refine wl_callS rfl rfl has18 rfl (fun w hs => builder_ok (A := (⟨b1, true, row [.slice q N.length c] 24⟩ : Ent) :: A) (l := []) (o := none) ⟨rfl, rfl⟩ (.inr rfl) Zf6 (by rw [show ownH 5 none = [] from rfl, List.append_nil]; exact hs)) ?_; rintro ⟨⟩ -) | apply Wl.nil) | (apply gQ; first | (apply Wq.ev rfl rfl; exact Zev)) | (apply lW; first | apply W.seq | apply W.region | apply W.skip | (refine Zbg ?_) | (refine Zc1 ?_; intro w hs)))
  all_goals first | exact GivesS.of hst hs () trivial rfl Ze | contradiction
 | cons k ks' =>
  have hne := txt_ne hks (List.Mem.head _)
  obtain ⟨ks, hke⟩ : ∃ ks, k :: ks' = ks := ⟨_, rfl⟩
  rw [hke] at hlay hb hne ⊢
  repeat' (first | (apply gL; first | (apply Wl.ev rfl rfl; exact Zev) | (refine lB 1 ?_; refine wl_box rfl rfl rfl rfl ?_; intro b1) | (refine lC 7 9 ?_; refine wl_callS rfl rfl has9 rfl Zf4 ?_; rintro ⟨⟩ -; rw [hc]; dsimp only [errC]) | (refine lB 14 ?_; refine wl_box rfl rfl rfl rfl ?_; intro pb) | (refine lC 16 17 ?_; refine wl_callS rfl rfl has17 rfl (fun w hs => hlay pb (A := (⟨b1, true, row [.slice q N.length c] 24⟩ : Ent) :: A) (s := ([], [])) (o := none) (by rw [prH_none]; exact hs) (fun e he => List.Mem.tail _ he) ⟨rfl, rfl⟩ hb) ?_; intro o1 hok1) | (refine lC 20 18 ?_; refine wl_callS rfl rfl has18 rfl (fun w hs => builder_ok (A := (⟨b1, true, row [.slice q N.length c] 24⟩ : Ent) :: A) (l := txt (.mk 1 [] [] 0 0 ks)) (o := o1) hok1 (.inl hne) hb hs) ?_; rintro ⟨⟩ -) | apply Wl.nil) | (apply gQ; first | (apply Wq.ev rfl rfl; exact Zev)) | (apply lW; first | apply W.seq | apply W.region | apply W.skip | (refine Zbg ?_) | (refine Zc1 ?_; intro w hs)))
  all_goals first | exact GivesS.of hst hs () trivial rfl Ze | contradiction
end
end Go.Proofs.YtbinaeemcidicaaGreatDoor
