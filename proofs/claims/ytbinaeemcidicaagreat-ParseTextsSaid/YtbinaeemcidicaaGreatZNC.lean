/- A walk of the laws' few: at most so many tokens, at most so long. No condition. -/
import Derived.Test.YtbinaeemcidicaaGreatZOrd
import Derived.Test.YtbinaeemcidicaaGreatZEQ
set_option maxRecDepth 100000
set_option maxHeartbeats 16000000
namespace Go.PB
open Go.RowKit
section
variable {P : Program} {ops : Array Oper} {Q : Exit → Act → World → Prop} {M : List Nat} {w0 : World} {n : Nat} {D : List Deferred} {L : List (Nat × Value)} {H : List Ent} {rest : List Oper}
 {d : Tmp} {oty t : TypeId} {pos : String} {after : Array Edge} {g : Option (Nat × Bool)} {x y : Operand}
theorem wl_makeSliceY {e : TypeId} {sz bytes m c : Nat} {z : List Value} (hg : gdv ops L g = some true) (hd : Nat.blt d n = true) (ht : Sl P t e) (hs : Sz P e sz) (hby : By P e bytes) (hz : Zero P e z)
  (hx : evo L x = some (.int .i64 (m : Nat))) (hy : evo L y = some (.int .i64 (c : Nat))) (hmc : m ≤ c) (hcells : c * sz ≤ 16777216) (hb : bytes * c ≤ 281474976710656) (hc63 : c ≤ 9223372036854775807)
  (h : ∀ b, Wl P ops Q M w0 n D rest ((d, .slice (some ⟨b, 0, none⟩) m c) :: L) (H ++ [⟨b, true, .cells (madeCells z.toArray (c * sz)) e (0, 0)⟩])) :
  Wl P ops Q M w0 n D (⟨some d, .makeSlice t x y, oty, pos, after, g⟩ :: rest) L H :=
 wl_makeSlice hg hd ht hs hby hz hx hy hmc hcells hb hc63 fun b => by
  have := h b
  unfold Wl at this ⊢
  exact fun a w hf hs => this a w hf (hs.perm (List.perm_append_singleton _ _).symm)
theorem ev_minN {k k' : IntKind} {m j : Int} {u : Nat} {ats : Array TypeId} (hx : evo L x = some (.int k m)) (hy : evo L y = some (.int k' j)) (h : min m j = u) : Ev P M w0 n D L H (.call { callee := .builtin .min, args := #[x, y], argTypes := ats }) oty (.int k (u : Nat)) := by
 rw [← h]
 exact ev_min hx hy
theorem ev_slice_0 {e : TypeId} {sz c : Nat} {p : Option Addr} {hi : Operand} (ht : Sl P t e) (hs : Sz P e sz) (hx : evo L x = some (.slice p 0 c)) (hhi : evo L hi = some (.int .i64 0)) :
  Ev P M w0 n D L H (.slice t x none (some hi) none) oty (.slice p 0 c) := by
 unfold Ev
 intro a w hf _ dst pos after g
 have ht' : P.underlying t = some (.slice e) := ht
 cases p with
 | none => simp [execOp, hf.eval hx, hf.eval hhi, Instr.sliceAt, Instr.slice, Instr.sliceBounds, Instr.sliceBound, asIntOf, run_underlying ht', run_sizeOf hs]
 | some b => simp [execOp, hf.eval hx, hf.eval hhi, Instr.sliceAt, Instr.slice, Instr.sliceBounds, Instr.sliceBound, asIntOf, run_underlying ht', run_sizeOf hs, Addr.add]
end
end Go.PB
namespace Go.Proofs.YtbinaeemcidicaaGreat
open Go.PB Go.RowKit
attribute [local irreducible] Go.Calls
def cutT (t : Ti) : Ti := ⟨t.k, t.t.take 50, t.x, t.a, t.n⟩
def fewS (l : List Ti) : List Ti := (l.take 400).map cutT
theorem tisC_len (l : List Ti) : (tisC l).length = l.length * 5 := by
 induction l with
 | nil => rfl
 | cons t l ih =>
  have : tisC (t :: l) = tiC t ++ tisC l := rfl
  rw [this, List.length_append, ih, List.length_cons]
  simp only [tiC, List.length_cons, List.length_nil]
  omega
theorem tisC_one (l : List Ti) : ∀ u ∈ tisC l, u.oneCell' = true := by
 intro u hu
 obtain ⟨t, _, ht⟩ := List.mem_flatMap.1 hu
 simp only [tiC, List.mem_cons, List.not_mem_nil, or_false] at ht
 rcases ht with rfl | rfl | rfl | rfl | rfl <;> rfl
theorem tisC_inv : ∀ {l : List Ti} {j : Nat} {u : Value}, (tisC l)[j]? = some u → ∃ i f, j = i * 5 + f ∧ i < l.length ∧ (tiC (l.getD i ti0))[f]? = some u
 | [], j, u, h => by simp [tisC] at h
 | t :: l, j, u, h => by
  rw [show tisC (t :: l) = tiC t ++ tisC l from rfl] at h
  have h5 : (tiC t).length = 5 := rfl
  by_cases hj : j < 5
  ·rw [List.getElem?_append_left Zga] at h
   exact ⟨0, j, by omega, by simp, by simpa using h⟩
  ·rw [List.getElem?_append_right Zga, h5] at h
   obtain ⟨i, f, h1, h2, h3⟩ := tisC_inv h
   exact ⟨i + 1, f, by omega, by simpa using h2, by simpa using h3⟩
def halfC (l : List Ti) (j : Nat) (cur : Array Value) : Prop := ∀ i, i < l.length → ∀ f v, (tiC (if i < j then cutT (l.getD i ti0) else l.getD i ti0))[f]? = some v → cur[i * 5 + f]? = some v
abbrev z77 : List Value := [.int .i64 77, .string ⟨#[]⟩, .int .i32 0, .int .i64 0, .int .i64 0]
theorem half_end {l : List Ti} {cur : Array Value} (h : halfC (l.take 400) (l.take 400).length cur) : ∀ (j : Nat) (u : Value), (tisC (fewS l))[j]? = some u → cur[j]? = some u := fun j u hj => by
 obtain ⟨i, f, rfl, hi, hu⟩ := tisC_inv hj
 have hi' : i < (l.take 400).length := by unfold fewS at hi; simpa using hi
 refine h i hi' f u ?_
 rw [if_pos hi']
 unfold fewS at hu
 generalize l.take 400 = m at hu hi'
 simpa [List.getD, hi', List.getElem?_map] using hu
theorem half_step {l : List Ti} {j : Nat} {cur : Array Value} (hj : j < l.length) (hs : l.length * 5 < cur.size) (h : halfC l j cur) : halfC l (j + 1) (cur.setIfInBounds (j * 5 + 1) (st ((l.getD j ti0).t.take 50))) := fun i hi f v hv => by
 have hf : f < 5 := by
  obtain ⟨h, _⟩ := List.getElem?_eq_some_iff.1 hv
  simpa [tiC] using h
 by_cases hij : i = j
 ·subst hij
  rw [if_pos Zga] at hv
  have h0 := h i hi f
  rw [if_neg Zga] at h0
  by_cases h1 : f = 1
  ·subst h1
   simp only [tiC, cutT, List.getElem?_cons_succ, List.getElem?_cons_zero, Option.some.injEq] at hv
   rw [← hv]
   rw [Array.getElem?_setIfInBounds_self_of_lt Zga]
  ·have : (i * 5 + 1) ≠ i * 5 + f := by omega
   rw [Array.getElem?_setIfInBounds_ne this]
   refine h0 v ?_
   rcases (show f = 0 ∨ f = 2 ∨ f = 3 ∨ f = 4 by omega) with rfl | rfl | rfl | rfl <;> exact hv
 ·have : (j * 5 + 1) ≠ i * 5 + f := by omega
  rw [Array.getElem?_setIfInBounds_ne this]
  refine h i hi f v ?_
  by_cases h2 : i < j
  ·rw [if_pos h2]; rw [if_pos Zga] at hv; exact hv
  ·rw [if_neg h2]; rw [if_neg Zga] at hv; exact hv
theorem half_zero {l : List Ti} {cur : Array Value} (h : ∀ (j : Nat) (u : Value), (tisC l)[j]? = some u → cur[j]? = some u) : halfC l 0 cur := fun i hi f v hv => by
 rw [if_neg Zga] at hv
 exact h _ _ (tisC_get hi hv)
theorem few_ok (v : Value) (l : List Ti) (hl : l.length ≤ 9223372036854775807) (w : World) (hv : TiAt w v l) (hcp : ∀ p m c, v = .slice p m c → m ≤ c) :
  Calls Tryz.prog 8 #[v] w (Gives (fun x : Nat × Nat × Array Value => .slice (some ⟨x.1, 0, none⟩) (fewS l).length x.2.1) (fun x => (∀ (j : Nat) (u : Value), (tisC (fewS l))[j]? = some u → x.2.2[j]? = some u) ∧ x.2.2[(fewS l).length * 5]? = some (.int .i64 77) ∧ (fewS l).length + 1 ≤ x.2.1) w (fun _ => []) (fun x => [(x.1, .cells x.2.2 42 (0, 0))])) := by
 obtain ⟨n, hn⟩ : ∃ n, min l.length 400 = n := ⟨_, rfl⟩
 have hfl : (fewS l).length = n := by unfold fewS; rw [List.length_map, List.length_take]; omega
 rw [hfl]
 have hv' : (∃ p c, v = .slice p 0 c ∧ l = []) ∨ (0 < l.length ∧ ∃ b off c arr et fr, v = .slice (some ⟨b, off, none⟩) l.length c ∧ w.heap[b]? = some (.cells arr et fr) ∧ ∀ (j : Nat) (u : Value), (tisC l)[j]? = some u → arr[off + j]? = some u) := by
  rcases hv with h | ⟨b, off, c, arr, et, fr, h1, h2, h3⟩
  ·exact .inl h
  ·rcases Nat.eq_zero_or_pos l.length with h0 | h0
   ·have : l = [] := List.eq_nil_of_length_eq_zero h0
    subst this
    exact .inl ⟨_, _, h1, rfl⟩
   ·exact .inr ⟨h0, b, off, c, arr, et, fr, h1, h2, h3⟩
 rcases hv' with ⟨p, c, rfl, rfl⟩ | ⟨hpos, b, off, c, arr, et, fr, rfl, hb, hc⟩
 ·refine calls_of_W (vs := [.slice p 0 c]) Tryz.func8 rfl Tryz.ntmps8 (Nat.le_of_ble_eq_true rfl) (St.nil w []) ?_
  simp only [argL]
  obtain rfl : n = 0 := by rw [← hn]; rfl
  have ok0 : ∀ mb, ownOk 0 5 [] (some (mb, 2, madeCells [Value.int .i64 0, .string ⟨#[]⟩, .int .i32 0, .int .i64 0, .int .i64 0].toArray (2 * 5))) := fun mb => ⟨Nat.zero_le _, by simp only [maxLen]; omega, by rw [size_madeCells], rfl, rfl⟩
  repeat' (first | (apply gL; first | (apply Wl.ev rfl rfl; exact Zda) | (refine wl_makeSliceY (m := 0) (c := 2) rfl rfl (slT rfl) (szT rfl) (byT rfl) (zeroT rfl) rfl rfl (Nat.zero_le _) Zga Zga Zga ?_; intro mb; try simp only [List.cons_append, List.nil_append]) | (refine wl_append_own (m := 0) (k := 1) (o := some (mb, 2, madeCells [Value.int .i64 0, .string ⟨#[]⟩, .int .i32 0, .int .i64 0, .int .i64 0].toArray (2 * 5))) (xs := []) (news := z77) rfl rfl (slT rfl) (szT rfl) (byT rfl) (zeroT rfl) rfl rfl rfl (ok0 mb) Zd rfl (fun j v h => by simpa using h) Zbn Zf7 Zbj Zga Zen ?_; intro o2 hok2; obtain ⟨fb, fcap, fcur, hfo, hfc, hfs, hfg⟩ := own_some hok2 Zga; cases hfo; simp only [ownV_some, ownH_some]) | apply Wl.nil | (apply wl_buildSlice rfl rfl (slT rfl) (szT rfl) (zeroT rfl) rfl Zf7 rfl; exact Zq; intro b)) | (apply gQ; first | (apply Wq.ev rfl rfl; exact Zda)) | (apply lW; first | apply W.seq | ((show W _ _ _ _ _ _ (.inl (.region 2 _ true) :: _) _ _); refine W.regionD mixed (List.Sublist.refl _) ?_) | (refine W.rounds 1 ?_) | apply W.round | apply W.region | apply W.block | (refine Zbm ?_) | (refine Zbc ?_) | (refine Zx ?_; intro w hs)) | ((show Wd _ _ _ _ _ _ _ _ _ _ _ _ _); first | ((refine Wd.all (by rfl) Zj ?_)) | (refine Wd.done Zj ?_) | (refine Wd.not Zj ?_) | (refine Wd.skip Zl rfl Zl Zj rfl rfl Zb ?_) | (refine Wd.take Zl rfl Zl Zj rfl rfl Zda Zb ?_) | (refine Wd.split Zl rfl rfl rfl ?_ ?_ <;> (intro h; try exact Zh)) | (refine Wd.splitB Zl rfl rfl rfl ?_ ?_ <;> (intro h; try exact Zh)) | apply Wd.next) | apply AllO.nil | apply AllO.cons | (refine Or.inl Zj) | ((show _ ∨ Wl _ _ _ _ _ _ _ _ _ _); apply Or.inr) | (refine Wl.nilD Zb ?_))
  all_goals exact ret_new hs (fb, fcap, fcur) ⟨fun j u h => by simp [fewS, tisC] at h, hfg 0 _ rfl, hfc⟩ rfl Zb
 ·have hlc : l.length ≤ c := hcp _ _ _ rfl
  refine calls_of_W (vs := [.slice (some ⟨b, off, none⟩) l.length c]) Tryz.func8 rfl Tryz.ntmps8 (Nat.le_of_ble_eq_true rfl) (St.read hb []) ?_
  simp only [argL]
  have hn0 : 0 < n := by omega
  have hln : l.take n = l.take 400 := by
   rw [← hn]
   rcases Nat.le_total l.length 400 with h | h
   ·rw [Nat.min_eq_left h, List.take_of_length_le (Nat.le_refl _), List.take_of_length_le h]
   ·rw [Nat.min_eq_right h]
  have hll : (l.take 400).length = n := by rw [List.length_take]; omega
  have hnl : (tisC (l.take n)).length = n * 5 := by rw [tisC_len, List.length_take, Nat.min_eq_left Zga]
  have hna : ∀ (j : Nat) v, (tisC (l.take n))[j]? = some v → arr[off + j]? = some v := fun j v h => hc j v (tisC_take h)
  have hno := tisC_one (l.take n)
  have hmin : min (l.length : Int) 400 = n := by omega
  have ok0 : ∀ mb, ownOk 0 5 [] (some (mb, n + 2, madeCells [Value.int .i64 0, .string ⟨#[]⟩, .int .i32 0, .int .i64 0, .int .i64 0].toArray ((n + 2) * 5))) := fun mb => ⟨Nat.zero_le _, by simp only [maxLen]; omega, by rw [size_madeCells], by simp, rfl⟩
  repeat' (first | (apply gL; first | (apply Wl.ev rfl rfl; exact Zd7) | (refine wl_makeSliceY (m := 0) (c := n + 2) rfl rfl (slT rfl) (szT rfl) (byT rfl) (zeroT rfl) rfl rfl (Nat.zero_le _) Zga Zga Zga ?_; intro mb; try simp only [List.cons_append, List.nil_append]) | (refine wl_append_own (m := 0) (k := n) (o := some (mb, n + 2, madeCells [Value.int .i64 0, .string ⟨#[]⟩, .int .i32 0, .int .i64 0, .int .i64 0].toArray ((n + 2) * 5))) (xs := []) (news := tisC (l.take n)) rfl rfl (slT rfl) (szT rfl) (byT rfl) (zeroT rfl) rfl rfl rfl (ok0 mb) Zd hnl hna hno hn0 Zbj Zga Zen ?_; intro o1 hok1) | (refine wl_append_own (m := 0 + n) (k := 1) (o := o1) (xs := [] ++ tisC (l.take n)) (news := z77) rfl rfl (slT rfl) (szT rfl) (byT rfl) (zeroT rfl) rfl rfl rfl hok1 Zd rfl (fun j v h => by simpa using h) Zbn Zf7 Zbj Zga Zen ?_; intro o2 hok2; obtain ⟨fb, fcap, fcur, hfo, hfc, hfs, hfg⟩ := own_some hok2 Zga; cases hfo; simp only [ownV_some, ownH_some]) | apply Wl.nil | (apply wl_buildSlice rfl rfl (slT rfl) (szT rfl) (zeroT rfl) rfl Zf7 rfl; exact Zq; intro b)) | (apply gQ; first | (apply Wq.ev rfl rfl; exact Zd7)) | (apply lW; first | apply W.seq | ((show W _ _ _ _ _ _ (.inl (.region 2 _ true) :: _) _ _); refine W.regionD mixed (List.Sublist.refl _) ?_) | apply W.region | apply W.block) | ((show Wd _ _ _ _ _ _ _ _ _ _ _ _ _); first | ((refine Wd.all (by rfl) Zj ?_)) | (refine Wd.done Zj ?_) | (refine Wd.not Zj ?_) | (refine Wd.skip Zl rfl Zl Zj rfl rfl Zb ?_) | (refine Wd.take Zl rfl Zl Zj rfl rfl Zd7 Zb ?_) | (refine Wd.split Zl rfl rfl rfl ?_ ?_ <;> (intro h; try exact Zh)) | (refine Wd.splitB Zl rfl rfl rfl ?_ ?_ <;> (intro h; try exact Zh)) | apply Wd.next) | apply AllO.nil | apply AllO.cons | (refine Or.inl Zj) | ((show _ ∨ Wl _ _ _ _ _ _ _ _ _ _); apply Or.inr) | (refine Wl.nilD Zb ?_))
  all_goals (
   refine W.loop (X := Nat × Array Value) (fun x => [(4, .slice (some ⟨fb, 0, none⟩) n fcap), (22, .int .i64 (n : Nat)), (23, .int .i64 (x.1 : Nat))]) (fun x => [⟨fb, true, .cells x.2 42 (0, 0)⟩]) (fun x => x.1 ≤ n ∧ halfC (l.take 400) x.1 x.2 ∧ x.2.size = fcap * 5 ∧ x.2[n * 5]? = some (.int .i64 77)) (fun x => n - x.1) (0, fcur) ⟨Nat.zero_le _, ?_, hfs, ?_⟩ Zm Zb ?_
   ·refine half_zero fun j u h => hfg j u ?_
    rw [← hln] at h
    rw [List.nil_append, List.getElem?_append_left]
    ·exact h
    ·obtain ⟨h, _⟩ := List.getElem?_eq_some_iff.1 h
     exact h
   ·refine hfg _ _ ?_
    rw [List.nil_append, List.getElem?_append_right Zga, hnl, Nat.sub_self]
    rfl
   rintro ⟨j, cur⟩ ⟨hj, hh, hsz, h77⟩
   dsimp only at hj hh hsz h77 ⊢
   by_cases hlt : j < n
   ·obtain ⟨A, hA⟩ : ∃ A, (l.take 400).getD j ti0 = A := ⟨_, rfl⟩
    have hst := half_step (l := l.take 400) (j := j) (cur := cur) Zga Zga hh
    have hld : ∀ o', o' = j * 5 + 1 → cur[o']? = some (st A.t) := fun o' e => by
     rw [e]
     have := hh j Zga 1 (st A.t) (by rw [if_neg Zga, hA]; rfl)
     exact this
    rw [hA] at hst
    have etk : A.t.take (min (A.t.length : Int) 50).toNat = A.t.take 50 := by
     rcases Nat.le_total A.t.length 50 with h | h
     ·rw [show (min (A.t.length : Int) 50).toNat = A.t.length by omega, List.take_of_length_le (Nat.le_refl _), List.take_of_length_le h]
     ·rw [show (min (A.t.length : Int) 50).toNat = 50 by omega]
    have eix : 0 + (j : Int).toNat * 5 + 1 = j * 5 + 1 := by omega
    have hst' : halfC (l.take 400) (j + 1) (cur.setIfInBounds (0 + (j : Int).toNat * 5 + 1) (.string ⟨(A.t.take (min (A.t.length : Int) 50).toNat).toArray⟩)) := by
     rw [eix, etk]
     exact hst
    repeat' (first | (apply gL; first | (apply Wl.ev rfl rfl; exact Zms) | (refine wl_storeCell rfl rfl rfl rfl (szT rfl) Ze Zga Zgn ?_) | apply Wl.nil) | (apply gQ; first | (apply Wq.ev rfl rfl; exact Zms) | ((show Wq _ _ (Qt _ _ _ _) _ _ _ _ [] _ _); apply Wq.tail)) | (apply lW; first | apply W.seq | ((show W _ _ _ _ _ _ (.inl (.region 6 _ true) :: _) _ _); refine W.regionT 17 mixed Zl rfl rfl ?_) | (refine W.again (j + 1, cur.setIfInBounds (0 + (j : Int).toNat * 5 + 1) (.string ⟨(A.t.take (min (A.t.length : Int) 50).toNat).toArray⟩)) ⟨by omega, hst', by rw [Array.size_setIfInBounds]; exact hsz, by rw [Array.getElem?_setIfInBounds_ne Zga]; exact h77⟩ Zm1 Zm Zb) | apply W.region | apply W.block | apply W.blk | apply W.skip | (refine Zv ?_ ?_ <;> (intro h; try exact Zh))))
   ·obtain rfl : j = n := by omega
    have hE := half_end (l := l) (cur := cur) (by rw [hll]; exact hh)
    repeat' (first | (apply gL; first | (apply Wl.ev rfl rfl; exact Zev) | apply Wl.nil) | (apply gQ; first | (apply Wq.ev rfl rfl; exact Zev)) | (apply lW; first | apply W.seq | apply W.region | (refine Zbm ?_) | (refine Zv ?_ ?_ <;> (intro h; try exact Zh)) | (refine Zx ?_; intro w hs)))
    exact ret_new hs (fb, fcap, cur) ⟨hE, h77, by dsimp only; omega⟩ rfl Zb)
end Go.Proofs.YtbinaeemcidicaaGreat
namespace Go.Proofs.YtbinaeemcidicaaGreat
open Go.PB Go.RowKit
attribute [local irreducible] Go.Calls
theorem ndsC_get {l : List Nk} {j i : Nat} {v : Value} {d : Nk} (hj : j < l.length) (h : (ndC (l.getD j d))[i]? = some v) : (ndsC l)[j * 6 + i]? = some v := flat_get (f := ndC) (c := 6) (fun _ => rfl) hj h
structure Nv where
 nd : Nd
 kv : Value
def nvC (y : Nv) : List Value := [.int .i64 y.nd.kd, st y.nd.ty, st y.nd.tx, .int .i32 y.nd.nm, y.kv, .int .i64 y.nd.pl]
def nvsC (l : List Nv) : List Value := l.flatMap nvC
abbrev nv0 : Nv := ⟨ndZ, .slice none 0 0⟩
theorem nvsC_get {l : List Nv} {j i : Nat} {v : Value} (hj : j < l.length) (h : (nvC (l.getD j nv0))[i]? = some v) : (nvsC l)[j * 6 + i]? = some v := flat_get (f := nvC) (c := 6) (fun _ => rfl) hj h
def RdT (R : List Ent) (v : Value) (l : List Nv) : Prop := RdX R v l.length (nvsC l) ∧ ∀ y ∈ l, RdX R y.kv y.nd.ks.length (intV y.nd.ks)
theorem RdT.mono {R R' : List Ent} {v : Value} {l : List Nv} (h : RdT R v l) (hR : ∀ p ∈ R, p ∈ R') : RdT R' v l := ⟨h.1.mono hR, fun y hy => (h.2 y hy).mono hR⟩
theorem getD_memN {l : List Nv} {j : Nat} (h : j < l.length) : l.getD j nv0 ∈ l := by
 simp only [List.getD, List.getElem?_eq_getElem h, Option.getD_some]
 exact List.getElem_mem h
def coreN (n : Nd) : Int × List UInt8 × List UInt8 × Int × List Int := (n.kd, n.ty, n.tx, n.nm, n.ks)
theorem get_eqI {l m : List Int} (hl : l.length = m.length) (h : ∀ i, i < l.length → l.getD i 0 = m.getD i 0) : l = m := List.ext_getElem hl fun i h1 h2 => by
 have := h i h1
 simpa [List.getD, h1, h2] using this
abbrev coreL (l : List Nv) : List (Int × List UInt8 × List UInt8 × Int × List Int) := l.map fun y => coreN y.nd
theorem core_eq {l m : List Nv} (hl : l.length = m.length) (h : ∀ i, i < l.length → coreN (l.getD i nv0).nd = coreN (m.getD i nv0).nd) : coreL l = coreL m := List.ext_getElem (by simp [hl]) fun i h1 h2 => by
 rw [List.length_map] at h1 h2
 have := h i h1
 simpa [List.getD, h1, h2] using this
theorem core_ne {l m : List Nv} {j : Nat} (h1 : j < l.length) (h2 : j < m.length) (h : coreN (l.getD j nv0).nd ≠ coreN (m.getD j nv0).nd) : coreL l ≠ coreL m := fun e => h (by
 have := congrArg (·[j]?) e
 simp only [List.getElem?_map, List.getElem?_eq_getElem h1, List.getElem?_eq_getElem h2, Option.map_some, Option.some.injEq] at this
 simpa [List.getD, h1, h2] using this)
theorem sameR_ok {M : List Nat} {w0 w : World} {R : List Ent} {v u : Value} {l m : List Nv} (hst : St M w0 w R) (hv : RdT R v l) (hu : RdT R u m) (hl : l.length ≤ 1000) (hz : ∀ y ∈ l, y.nd.ks.length ≤ 1048576) :
  Calls Tryz.prog 26 #[.agg [v].toArray, .agg [u].toArray] w (Give (.bool (decide (coreL l = coreL m))) w) := by
 have hv' := hv.1.ro
 have hu' := hu.1.ro
 obtain ⟨p, c, rfl⟩ := hv.1.len
 obtain ⟨p', c', rfl⟩ := hu.1.len
 refine give_of_W (vs := [.agg [.slice p l.length c].toArray, .agg [.slice p' m.length c'].toArray]) Tryz.func26 rfl Tryz.ntmps26 (Nat.le_of_ble_eq_true rfl) hst.reads ?_
 simp only [argL]
 by_cases hlen : l.length = m.length
 case neg =>
  have hne : coreL l ≠ coreL m := fun e => hlen (by simpa using congrArg List.length e)
  repeat' (first | (apply gL; first | (apply Wl.ev rfl rfl; exact Zev) | (refine lB 2 ?_; refine wl_box rfl rfl rfl rfl ?_; intro b2) | (refine lB 3 ?_; refine wl_box rfl rfl rfl rfl ?_; intro b3) | apply Wl.nil) | (apply gQ; first | (apply Wq.ev rfl rfl; exact Zev)) | (apply lW; first | apply W.seq | apply W.region | (refine Zv ?_ ?_ <;> (intro h; try exact Za)) | (refine Zx ?_; intro w hs)))
  all_goals first | exact ret_eq hs (congrArg Value.bool (decide_eq_false hne).symm) | contradiction | exact Zz
 repeat' (first | (apply gL; first | (apply Wl.ev rfl rfl; exact Zev) | (refine lB 2 ?_; refine wl_box rfl rfl rfl rfl ?_; intro b2) | (refine lB 3 ?_; refine wl_box rfl rfl rfl rfl ?_; intro b3) | apply Wl.nil) | (apply gQ; first | (apply Wq.ev rfl rfl; exact Zev)) | (apply lW; first | apply W.seq | ((show W _ _ _ _ _ _ (.inl (.loop (.seq (.region 4 _ _) _)) :: _) _ _); refine W.loop (X := Nat) (fun j => [(2, ptr b2), (3, ptr b3), (18, .int .i64 (l.length : Nat)), (19, .int .i64 (j : Nat))]) (fun _ => (⟨b3, true, row [.slice p' m.length c'] 35⟩ : Ent) :: (⟨b2, true, row [.slice p l.length c] 35⟩ : Ent) :: ro R) (fun j => j ≤ l.length ∧ ∀ i, i < j → coreN (l.getD i nv0).nd = coreN (m.getD i nv0).nd) (fun j => l.length - j) 0 ⟨Nat.zero_le _, fun i h => absurd h (Nat.not_lt_zero _)⟩ Zm (List.Sublist.refl _) ?_) | apply W.region | apply W.block | apply W.skip | (refine Zv ?_ ?_ <;> (intro h; try exact Za))))
 all_goals first | contradiction | exact Zz | skip
 rintro j ⟨hj, hall⟩
 by_cases hlt : j < l.length
 case neg =>
  obtain rfl : j = l.length := by omega
  have he := core_eq hlen hall
  repeat' (first | (apply gL; first | (apply Wl.ev rfl rfl; exact Zev) | apply Wl.nil) | (apply gQ; first | (apply Wq.ev rfl rfl; exact Zev)) | (apply lW; first | apply W.seq | apply W.region | (refine Zbm ?_) | (refine Zv ?_ ?_ <;> (intro h; try exact Za)) | (refine Zx ?_; intro w hs)))
  all_goals first | exact ret_eq hs (congrArg Value.bool (decide_eq_true he).symm) | contradiction | exact Zz
 obtain ⟨b, off, c1, arr, et, fr, wr, he, hm, hcc, hgt⟩ := hv'.pos Zga
 cases he
 obtain ⟨b', off', c1', arr', et', fr', wr', he', hm', hcc', hgt'⟩ := hu'.pos Zga
 cases he'
 have g0 : ∀ (f : Nat) u, (nvC (l.getD j nv0))[f]? = some u → ∀ o, o = off + (j * 6 + f) → arr[o]? = some u := fun f u h => hgt _ _ (nvsC_get hlt h)
 have g1 : ∀ (f : Nat) u, (nvC (m.getD j nv0))[f]? = some u → ∀ o, o = off' + (j * 6 + f) → arr'[o]? = some u := fun f u h => hgt' _ _ (nvsC_get Zga h)
 have hxv := (hv.2 _ (getD_memN hlt)).ro
 have hxz := hz _ (getD_memN hlt)
 have hyv := (hu.2 _ (getD_memN (l := m) (j := j) Zga)).ro
 have hnx : coreN (l.getD j nv0).nd ≠ coreN (m.getD j nv0).nd → coreL l ≠ coreL m := fun h => core_ne hlt Zga h
 have hyx : coreN (l.getD j nv0).nd = coreN (m.getD j nv0).nd → ∀ i, i < j + 1 → coreN (l.getD i nv0).nd = coreN (m.getD i nv0).nd := fun h i hi => by
  rcases Nat.lt_or_ge i j with h' | h'
  ·exact hall i h'
  ·rw [show i = j by omega]
   exact h
 obtain ⟨⟨⟨k1, k2, k3, k4, k5, k6⟩, k7⟩, hx⟩ : ∃ x, l.getD j nv0 = x := ⟨_, rfl⟩
 obtain ⟨⟨⟨j1, j2, j3, j4, j5, j6⟩, j7⟩, hy⟩ : ∃ x, m.getD j nv0 = x := ⟨_, rfl⟩
 rw [hx] at g0 hxv hxz hnx hyx
 rw [hy] at g1 hyv hnx hyx
 obtain ⟨kp, kc, rfl⟩ : ∃ p c, k7 = .slice p k5.length c := hxv.len
 obtain ⟨jp, jc, rfl⟩ : ∃ p c, j7 = .slice p j5.length c := hyv.len
 dsimp only at hnx hyx hxv hyv hxz
 repeat' (first | (apply gL; first | (apply Wl.ev rfl rfl; exact Zb1) | (refine lA 6 ?_; refine wl_alloc rfl rfl (zeroT rfl) ?_; intro b6) | (refine lA 7 ?_; refine wl_alloc rfl rfl (zeroT rfl) ?_; intro b7) | (refine Zf6 ?_) | apply Wl.nil) | (apply gQ; first | (apply Wq.ev rfl rfl; exact Zb1)) | (apply lW; first | apply W.seq | ((show W _ _ _ _ _ _ (.inl (.region 6 _ true) :: .inl _ :: _) _ _); refine W.join (X := Nat × Nat) (fun x => [(2, ptr b2), (3, ptr b3), (6, ptr x.1), (7, ptr x.2), (18, .int .i64 (l.length : Nat)), (19, .int .i64 (j : Nat))]) (fun x => ⟨x.2, true, row [.int .i64 j1, st j2, st j3, .int .i32 j4, .slice jp j5.length jc, .int .i64 j6] 45⟩ :: ⟨x.1, true, row [.int .i64 k1, st k2, st k3, .int .i32 k4, .slice kp k5.length kc, .int .i64 k6] 45⟩ :: ⟨b3, true, row [.slice (some ⟨b', off', none⟩) m.length c'] 35⟩ :: ⟨b2, true, row [.slice (some ⟨b, off, none⟩) l.length c] 35⟩ :: ro R) (fun _ => True) ?_ ?_) | ((show W _ _ _ _ _ _ (.inl (.region 6 _ true) :: _) _ _); refine W.regionD mixed (List.Sublist.refl _) ?_) | (refine W.meet (b6, b7) trivial Zm (List.Sublist.refl _)) | ((show W _ _ _ _ _ _ (.inr (.inr (.inl _)) :: _) _ _); refine W.reH (fun w hs => hs.perm (List.Perm.swap _ _ _)) ?_; refine W.meet (b6, b7) trivial Zm (List.Sublist.refl _)) | apply W.region | apply W.block | apply W.skip | (refine Zv ?_ ?_ <;> (intro h; try exact Za))) | ((show Wd _ _ _ _ _ _ _ _ _ _ _ _ _); first | ((refine Wd.all (by rfl) Zj ?_)) | (refine Wd.done Zj ?_) | (refine Wd.not Zj ?_) | (refine Wd.skip Zl rfl Zl Zj rfl rfl Zd9 ?_) | (refine Wd.take Zl rfl Zl Zj rfl rfl Zb1 Zd9 ?_) | ((fail_if_success (refine Wd.chk rfl rfl ?_)); (refine Wd.split Zl rfl rfl rfl ?_ ?_ <;> (intro h; try exact Za))) | ((fail_if_success (refine Wd.chk rfl rfl ?_)); (refine Wd.splitB Zl rfl rfl rfl ?_ ?_ <;> (intro h; try exact Za))) | apply Wd.next) | apply AllO.nil | apply AllO.cons | (refine Or.inl Zj) | ((show _ ∨ Wl _ _ _ _ _ _ _ _ _ _); apply Or.inr) | (refine Wl.nilD Zd9 ?_))
 all_goals try exact Zz
 rintro ⟨b6, b7⟩ -
 dsimp only
 by_cases e1 : k1 = j1
 rotate_left
 ·have hne : coreL l ≠ coreL m := hnx (fun e => e1 (congrArg (fun x => x.1) e))
  ((repeat' (first | (apply gL; first | (apply Wl.ev rfl rfl; exact Zev) | apply Wl.nil | (refine Zbb ?_) | ((fail_if_success (apply Wl.chk rfl)); refine Wl.split rfl rfl ?_ ?_ <;> (intro h; try exact Za))) | (apply gQ; first | (apply Wq.ev rfl rfl; exact Zev)) | (apply lW; first | apply W.seq | apply W.region | (refine Zbh ?_) | (refine Zx ?_; intro w hs)))); all_goals first | exact ret_eq hs (congrArg Value.bool (decide_eq_false hne).symm) | contradiction | exact Zz | fail)
 subst e1
 by_cases e2 : k2 = j2
 rotate_left
 ·have hne : coreL l ≠ coreL m := hnx (fun e => e2 (congrArg (fun x => x.2.1) e))
  ((repeat' (first | (apply gL; first | (apply Wl.ev rfl rfl; exact Zev) | apply Wl.nil | (refine Zbb ?_) | ((fail_if_success (apply Wl.chk rfl)); refine Wl.split rfl rfl ?_ ?_ <;> (intro h; try exact Za))) | (apply gQ; first | (apply Wq.ev rfl rfl; exact Zev)) | (apply lW; first | apply W.seq | apply W.region | (refine Zbh ?_) | (refine Zx ?_; intro w hs)))); all_goals first | exact ret_eq hs (congrArg Value.bool (decide_eq_false hne).symm) | contradiction | exact Zz | fail)
 subst e2
 by_cases e3 : k3 = j3
 rotate_left
 ·have hne : coreL l ≠ coreL m := hnx (fun e => e3 (congrArg (fun x => x.2.2.1) e))
  ((repeat' (first | (apply gL; first | (apply Wl.ev rfl rfl; exact Zev) | apply Wl.nil | (refine Zbb ?_) | ((fail_if_success (apply Wl.chk rfl)); refine Wl.split rfl rfl ?_ ?_ <;> (intro h; try exact Za))) | (apply gQ; first | (apply Wq.ev rfl rfl; exact Zev)) | (apply lW; first | apply W.seq | apply W.region | (refine Zbh ?_) | (refine Zx ?_; intro w hs)))); all_goals first | exact ret_eq hs (congrArg Value.bool (decide_eq_false hne).symm) | contradiction | exact Zz | fail)
 subst e3
 by_cases e4 : k4 = j4
 rotate_left
 ·have hne : coreL l ≠ coreL m := hnx (fun e => e4 (congrArg (fun x => x.2.2.2.1) e))
  ((repeat' (first | (apply gL; first | (apply Wl.ev rfl rfl; exact Zev) | apply Wl.nil | (refine Zbb ?_) | ((fail_if_success (apply Wl.chk rfl)); refine Wl.split rfl rfl ?_ ?_ <;> (intro h; try exact Za))) | (apply gQ; first | (apply Wq.ev rfl rfl; exact Zev)) | (apply lW; first | apply W.seq | apply W.region | (refine Zbh ?_) | (refine Zx ?_; intro w hs)))); all_goals first | exact ret_eq hs (congrArg Value.bool (decide_eq_false hne).symm) | contradiction | exact Zz | fail)
 subst e4
 by_cases e5 : k5.length = j5.length
 rotate_left
 ·have hne : coreL l ≠ coreL m := hnx (fun e => e5 (congrArg (fun x => x.2.2.2.2.length) e))
  ((repeat' (first | (apply gL; first | (apply Wl.ev rfl rfl; exact Zev) | apply Wl.nil | ((fail_if_success (apply Wl.chk rfl)); refine Wl.split rfl rfl ?_ ?_ <;> (intro h; try exact Za))) | (apply gQ; first | (apply Wq.ev rfl rfl; exact Zev)) | (apply lW; first | apply W.seq | apply W.region | (refine Zv ?_ ?_ <;> (intro h; try exact Za)) | (refine Zx ?_; intro w hs)))); all_goals first | exact ret_eq hs (congrArg Value.bool (decide_eq_false hne).symm) | contradiction | exact Zz | fail)
 repeat' (first | (apply gL; first | (apply Wl.ev rfl rfl; exact Zev) | apply Wl.nil | ((fail_if_success (apply Wl.chk rfl)); refine Wl.split rfl rfl ?_ ?_ <;> (intro h; try exact Za))) | (apply gQ; first | (apply Wq.ev rfl rfl; exact Zev)) | (apply lW; first | apply W.seq | (refine W.loop (X := Nat) (fun k => [(2, ptr b2), (3, ptr b3), (6, ptr b6), (7, ptr b7), (18, .int .i64 (l.length : Nat)), (19, .int .i64 (j : Nat)), (69, .int .i64 (k5.length : Nat)), (70, .int .i64 (k : Nat))]) (fun _ => ⟨b7, true, row [.int .i64 k1, st k2, st k3, .int .i32 k4, .slice jp j5.length jc, .int .i64 j6] 45⟩ :: ⟨b6, true, row [.int .i64 k1, st k2, st k3, .int .i32 k4, .slice kp k5.length kc, .int .i64 k6] 45⟩ :: ⟨b3, true, row [.slice (some ⟨b', off', none⟩) m.length c'] 35⟩ :: ⟨b2, true, row [.slice (some ⟨b, off, none⟩) l.length c] 35⟩ :: ro R) (fun k => k ≤ k5.length ∧ ∀ i, i < k → k5.getD i 0 = j5.getD i 0) (fun k => k5.length - k) 0 ⟨Nat.zero_le _, fun i h => absurd h (Nat.not_lt_zero _)⟩ Zm (List.Sublist.refl _) ?_) | apply W.region | apply W.block | apply W.skip | (refine Zv ?_ ?_ <;> (intro h; try exact Za))))
 all_goals first | contradiction | exact Zz | skip
 rintro k ⟨hk, hak⟩
 by_cases hlk : k < k5.length
 ·obtain ⟨c5, of5, cp5, ar5, et5, fr5, wr5, he5, hm, hcc5, hgt5⟩ := hxv.pos Zga
  cases he5
  obtain ⟨c6, of6, cp6, ar6, et6, fr6, wr6, he6, hm', hcc6, hgt6⟩ := hyv.pos Zga
  cases he6
  have g0 := hgt5 k _ (intV_get hlk)
  have g1 := hgt6 k _ (intV_get (l := j5) Zga)
  obtain ⟨x, hx⟩ : ∃ x, k5.getD k 0 = x := ⟨_, rfl⟩
  obtain ⟨y, hy⟩ : ∃ y, j5.getD k 0 = y := ⟨_, rfl⟩
  rw [hx] at g0
  rw [hy] at g1
  by_cases hxy : x = y
  ·repeat' (first | (apply gL; first | (apply Wl.ev rfl rfl; exact Zcb) | apply Wl.nil) | (apply gQ; first | (apply Wq.ev rfl rfl; exact Zcb) | apply Wq.nil) | (apply lW; first | apply W.seq | (refine Zgf ?_) | apply W.region | apply W.block | apply W.blk | apply W.skip | (refine Zv ?_ ?_ <;> (intro h; try exact Za))))
   all_goals first | exact W.again (k + 1) ⟨hlk, fun i hi => by rcases Nat.lt_or_ge i k with h | h; exact hak i h; rw [show i = k by omega, hx, hy, hxy]⟩ Zga Zm (List.Sublist.refl _) | contradiction | exact Zz
  ·have hne : coreL l ≠ coreL m := hnx (fun e => hxy (by rw [← hx, ← hy, show k5 = j5 from congrArg (fun x => x.2.2.2.2) e]))
   repeat' (first | (apply gL; first | (apply Wl.ev rfl rfl; exact Zcb) | apply Wl.nil) | (apply gQ; first | (apply Wq.ev rfl rfl; exact Zcb) | apply Wq.nil) | (apply lW; first | apply W.seq | (refine Zgf ?_) | apply W.region | apply W.block | apply W.skip | (refine Zv ?_ ?_ <;> (intro h; try exact Za)) | (refine Zx ?_; intro w hs)))
   all_goals first | exact ret_eq hs (congrArg Value.bool (decide_eq_false hne).symm) | contradiction | exact Zz
 ·obtain rfl : k = k5.length := by omega
  have he : k5 = j5 := get_eqI e5 hak
  have hyx := hyx (by rw [he]; rfl)
  repeat' (first | (apply gL; first | (apply Wl.ev rfl rfl; exact Zev) | apply Wl.nil) | (apply gQ; first | (apply Wq.ev rfl rfl; exact Zev)) | (apply lW; first | apply W.seq | apply W.region | apply W.blk | (refine Zbm ?_) | (refine Zv ?_ ?_ <;> (intro h; try exact Za))))
  all_goals first | exact W.again (j + 1) ⟨hlt, hyx⟩ (by show l.length - (j + 1) < l.length - j; omega) Zm (by repeat (first | exact List.Sublist.refl _ | apply List.Sublist.cons)) | contradiction | exact Zz
end Go.Proofs.YtbinaeemcidicaaGreat
namespace Go.PB
open Go.RowKit
section
variable {P : Program} {ops : Array Oper} {Q : Exit → Act → World → Prop} {M : List Nat} {w0 : World} {n : Nat} {D : List Deferred} {L : List (Nat × Value)} {H : List Ent} {rest : List Oper}
 {oty t : TypeId} {pos : String} {after : Array Edge} {g : Option (Nat × Bool)} {x y : Operand}
theorem wl_storeAgg {e : TypeId} {b off : Nat} {lv : List Value} {c : Array Value} {H' : List Ent} (hg : gdv ops L g = some true) (hx : evo L x = some (.pointer (some ⟨b, off, none⟩))) (hy : evo L y = some (.agg lv.toArray)) (hs : Sz P t lv.length)
  (hm : Upd H b (.cells c e (0, 0)) (.cells (c.toList.take off ++ lv ++ c.toList.drop (off + lv.length)).toArray e (0, 0)) H') (hfit : off + lv.length ≤ c.size) (h1 : ∀ v ∈ lv, v.oneCell' = true)
  (h : Wl P ops Q M w0 n D rest L H') : Wl P ops Q M w0 n D (⟨none, .store t x y, oty, pos, after, g⟩ :: rest) L H := by
 have hex : ∀ a w, Fz n L D a → St M w0 w H → (execOp a.eval ⟨none, .store t x y, oty, pos, after, g⟩).run P w = .ok (.value undef) (w.setRow b (c.toList.take off ++ lv ++ c.toList.drop (off + lv.length)).toArray) ∨
   (execOp a.eval ⟨none, .store t x y, oty, pos, after, g⟩).run P w = .ok .skip (w.setRow b (c.toList.take off ++ lv ++ c.toList.drop (off + lv.length)).toArray) := by
  intro a w hf hst
  have hb := hst.get hm.mem
  have hr := run_storeCells_at P b off e lv 0 c w hb (by simpa using hfit) h1
  simp only [Nat.add_zero] at hr
  have hcells : (Value.agg lv.toArray).cells = lv.toArray := rfl
  have hsv : (storeVar t ⟨b, off, none⟩ (.agg lv.toArray)).run P w = .ok () (w.setRow b (c.toList.take off ++ lv ++ c.toList.drop (off + lv.length)).toArray) := by
   simp [storeVar, run_sizeOf hs, hcells, hr]
  simp [execOp, hf.eval hx, hf.eval hy, Instr.storeAt, Instr.sureAddr, hsv]
 unfold Wl at h ⊢
 intro a w hf hst
 unfold wpList
 rw [if_pos Zc5]
 refine .inl ?_
 unfold Oper.wp
 have hb := hst.get hm.mem
 have hfin : St M w0 (w.setRow b (c.toList.take off ++ lv ++ c.toList.drop (off + lv.length)).toArray) H' :=
  hst.upd hm ⟨rfl, rfl, rfl, by simp, fun j _ hj => setRow_other w b j _ (fun e => hj (by rw [e]))⟩ (setRow_heap w b c _ e _ hb)
 rcases hex a w hf hst with e' | e' <;> rw [e'] <;> exact h _ _ hf hfin
end
end Go.PB
namespace Go.Proofs.YtbinaeemcidicaaGreat
open Go.PB Go.RowKit
attribute [local irreducible] Go.Calls
theorem whole_true {M : List Nat} {w0 w : World} {R : List Ent} {v u : Value} {l m : List Nv} (hst : St M w0 w R) (hv : RdT R v l) (hu : RdT R u m) (hl : l.length ≤ 1000) (hz : ∀ y ∈ l, y.nd.ks.length ≤ 1048576) (he : l.map Nv.nd = m.map Nv.nd) :
  Calls Tryz.prog 12 #[.agg [v].toArray, .agg [u].toArray] w (Give (.bool true) w) := by
 have hlen : l.length = m.length := by simpa using congrArg List.length he
 have hcore : coreL l = coreL m := by
  have e1 : coreL l = (l.map Nv.nd).map coreN := by rw [List.map_map]; rfl
  have e2 : coreL m = (m.map Nv.nd).map coreN := by rw [List.map_map]; rfl
  rw [e1, e2, he]
 have hv' : RdT (ro R) v l := ⟨hv.1.ro, fun y hy => (hv.2 y hy).ro⟩
 have hu' : RdT (ro R) u m := ⟨hu.1.ro, fun y hy => (hu.2 y hy).ro⟩
 have hsm : ∀ {M : List Nat} {w0 : World} {H : List Ent} (w : World), St M w0 w H → (∀ e ∈ ro R, e ∈ H) → Calls Tryz.prog 26 #[.agg [v].toArray, .agg [u].toArray] w (Give (.bool true) w) := fun w hs h => by
  have := sameR_ok hs (hv'.mono h) (hu'.mono h) hl hz
  rwa [decide_eq_true hcore] at this
 obtain ⟨p, c, rfl⟩ := hv.1.len
 obtain ⟨p', c', rfl⟩ := hu.1.len
 refine give_of_W (vs := [.agg [.slice p l.length c].toArray, .agg [.slice p' m.length c'].toArray]) Tryz.func12 rfl Tryz.ntmps12 (Nat.le_of_ble_eq_true rfl) hst.reads ?_
 simp only [argL]
 repeat' (first | (apply gL; first | (apply Wl.ev rfl rfl; exact Zev) | (refine lB 2 ?_; refine wl_box rfl rfl rfl rfl ?_; intro b2) | (refine lB 3 ?_; refine wl_box rfl rfl rfl rfl ?_; intro b3) | (refine lD 26 ?_; refine wl_call0 rfl rfl has26 rfl (fun w hs => hsm w hs (fun e he => by repeat (first | exact he | apply List.Mem.tail))) ?_) | apply Wl.nil) | (apply gQ; first | (apply Wq.ev rfl rfl; exact Zev)) | (apply lW; first | apply W.seq | (refine W.loop (X := Nat) (fun j => [(2, ptr b2), (3, ptr b3), (12, .int .i64 (l.length : Nat)), (13, .int .i64 (j : Nat))]) (fun _ => (⟨b3, true, row [.slice p' m.length c'] 35⟩ : Ent) :: (⟨b2, true, row [.slice p l.length c] 35⟩ : Ent) :: ro R) (fun j => j ≤ l.length) (fun j => l.length - j) 0 (Nat.zero_le _) Zm (List.Sublist.refl _) ?_) | apply W.region | apply W.block | apply W.skip | (refine Zbc ?_)))
 all_goals first | contradiction | exact Zz | skip
 rintro j hj
 by_cases hlt : j < l.length
 ·obtain ⟨b, off, c1, arr, et, fr, wr, he0, hm, hcc, hgt⟩ := hv'.1.pos Zga
  cases he0
  obtain ⟨b', off', c1', arr', et', fr', wr', he1, hm', hcc', hgt'⟩ := hu'.1.pos Zga
  cases he1
  have g0 : ∀ (f : Nat) u, (nvC (l.getD j nv0))[f]? = some u → ∀ o, o = off + (j * 6 + f) → arr[o]? = some u := fun f u h => hgt _ _ (nvsC_get hlt h)
  have g1 : ∀ (f : Nat) u, (nvC (m.getD j nv0))[f]? = some u → ∀ o, o = off' + (j * 6 + f) → arr'[o]? = some u := fun f u h => hgt' _ _ (nvsC_get Zga h)
  have hpl : (l.getD j nv0).nd.pl = (m.getD j nv0).nd.pl := by
   have := congrArg (fun x => (x.getD j nv0.nd).pl) he
   simpa [List.getD, List.getElem?_map, hlt, show j < m.length by omega] using this
  obtain ⟨y, hy⟩ : ∃ y, (l.getD j nv0).nd.pl = y := ⟨_, rfl⟩
  have h5 := g0 5 (.int .i64 y) (by rw [← hy]; rfl)
  have h6 := g1 5 (.int .i64 y) (by rw [← hy, hpl]; rfl)
  clear g0 g1 hgt hgt'
  repeat' (first | (apply gL; first | (apply Wl.ev rfl rfl; exact Zeh) | apply Wl.nil) | (apply gQ; first | (apply Wq.ev rfl rfl; exact Zeh) | apply Wq.nil) | (apply lW; first | apply W.seq | (refine Zgf ?_) | apply W.region | apply W.block | apply W.blk | apply W.skip | (refine Zv ?_ ?_ <;> (intro h; try exact Za))))
  all_goals first | exact W.again (j + 1) hlt Zga Zm (List.Sublist.refl _) | contradiction | exact Zz
 ·obtain rfl : j = l.length := by omega
  repeat' (first | (apply gL; first | (apply Wl.ev rfl rfl; exact Zev) | apply Wl.nil) | (apply gQ; first | (apply Wq.ev rfl rfl; exact Zev)) | (apply lW; first | apply W.seq | apply W.region | (refine Zbm ?_) | (refine Zv ?_ ?_ <;> (intro h; try exact Za)) | (refine Zx ?_; intro w hs)))
  all_goals first | exact ret_eq hs rfl | contradiction | exact Zz
def restC (N : List Nk) (i : Nat) (cur : Array Value) : Prop := ∀ (p : Nat) u, i * 6 ≤ p → (ndsC N)[p]? = some u → cur[p]? = some u
theorem rest_next {N : List Nk} {i : Nat} {cur : Array Value} {lv : List Value} (h : restC N i cur) (h6 : lv.length = 6) (hs : i * 6 + 6 ≤ cur.size) : restC N (i + 1) (cur.toList.take (i * 6) ++ lv ++ cur.toList.drop (i * 6 + lv.length)).toArray := fun p u hp hu => by
 have hu := h p u Zga hu
 have hl : (cur.toList.take (i * 6)).length = i * 6 := by rw [List.length_take, Array.length_toList]; omega
 simp only [List.getElem?_toArray]
 rw [List.getElem?_append_right (by rw [List.length_append, hl, h6]; omega), List.length_append, hl, h6, List.getElem?_drop, show i * 6 + 6 + (p - (i * 6 + 6)) = p by omega]
 simpa using hu
abbrev zN : List Value := [.int .i64 0, .string ⟨#[]⟩, .string ⟨#[]⟩, .int .i32 0, .slice none 0 0, .int .i64 0]
theorem spoil_ok {M : List Nat} {w0 w : World} {R : List Ent} {N : List Nk} {o : Ow} (hst : St M w0 w ((R ++ ndKH N) ++ ownH 45 o)) (ho : ownOk N.length 6 (ndsC N) o) (hk : ndKok N) (hN : N.length ≤ 1500000) :
  Calls Tryz.prog 13 #[.agg [ownV N.length o].toArray] w (GivesS (fun _ : Unit => .tuple #[]) (fun _ => True) M w0 fun _ => R) := by
 refine calls_of_W (vs := [.agg [ownV N.length o].toArray]) Tryz.func13 rfl Tryz.ntmps13 (Nat.le_of_ble_eq_true rfl) hst.fromHere ?_
 simp only [argL]
 rcases Nat.eq_zero_or_pos N.length with h0 | h0
 ·obtain ⟨np, nc, hlv⟩ := (RdX.own (R := ownH 45 o) (e := 45) ho (fun p hp => hp)).len
  rw [hlv, h0]
  repeat' (first | (apply gL; first | (apply Wl.ev rfl rfl; exact Zev) | (refine lB 1 ?_; refine wl_box rfl rfl rfl rfl ?_; intro b1) | apply Wl.nil) | (apply gQ; first | (apply Wq.ev rfl rfl; exact Zev)) | (apply lW; first | apply W.seq | (refine W.rounds 1 ?_) | apply W.round | apply W.region | apply W.block | (refine Zbm ?_) | (refine Zbc ?_) | (refine W.end0 rfl ?_; intro w hs)))
  all_goals first | exact GivesS.ofC hst hs () trivial rfl Zcz | contradiction | exact Zz
 obtain ⟨nb, cap, cur, rfl, hcap, hsz, hget⟩ := own_some ho h0
 rw [ownV_some]
 repeat' (first | (apply gL; first | (apply Wl.ev rfl rfl; exact Zev) | (refine lB 1 ?_; refine wl_box rfl rfl rfl rfl ?_; intro b1) | apply Wl.nil) | (apply gQ; first | (apply Wq.ev rfl rfl; exact Zev)) | (apply lW; first | apply W.seq | (refine W.reC (H' := (⟨b1, true, row [.slice (some ⟨nb, 0, none⟩) N.length cap] 35⟩ : Ent) :: ⟨nb, true, .cells cur 45 (0, 0)⟩ :: (R ++ ndKH (N.drop 0))) (by intro e; simp only [List.drop_zero, ownH_some, List.count_append, cnt_cons, List.count_nil]; omega) ?_; refine W.loop (X := Nat × Array Value) (fun x => [(1, ptr b1), (6, .int .i64 (N.length : Nat)), (7, .int .i64 (x.1 : Nat))]) (fun x => (⟨b1, true, row [.slice (some ⟨nb, 0, none⟩) N.length cap] 35⟩ : Ent) :: ⟨nb, true, .cells x.2 45 (0, 0)⟩ :: (R ++ ndKH (N.drop x.1))) (fun x => x.1 ≤ N.length ∧ restC N x.1 x.2 ∧ x.2.size = cap * 6) (fun x => N.length - x.1) (0, cur) ⟨Nat.zero_le _, fun p u _ h => hget p u h, hsz⟩ Zm (List.Sublist.refl _) ?_) | apply W.region | apply W.block))
 rintro ⟨i, cu⟩ ⟨hi, hrest, hcs⟩
 dsimp only at hi hrest hcs ⊢
 by_cases hlt : i < N.length
 ·have hdr : N.drop i = N[i] :: N.drop (i + 1) := List.drop_eq_getElem_cons hlt
  have hki := hk _ (List.getElem_mem hlt)
  obtain ⟨⟨⟨kd, ty, tx, nm, ks, pl⟩, ok⟩, hx⟩ : ∃ x, N[i] = x := ⟨_, rfl⟩
  rw [hx] at hdr hki
  dsimp only at hki
  have hcell : ∀ q, q = i * 6 + 4 → cu[q]? = some (ownV ks.length ok) := fun q hq => by
   refine hrest q _ Zga ?_
   rw [hq]
   refine ndsC_get (d := (ndZ, none)) hlt ?_
   rw [show N.getD i (ndZ, none) = N[i] by simp [List.getD, hlt], hx]
   rfl
  have hnext : restC N (i + 1) (cu.toList.take (0 + (i : Int).toNat * 6) ++ zN ++ cu.toList.drop (0 + (i : Int).toNat * 6 + zN.length)).toArray := by
   rw [show 0 + (i : Int).toNat * 6 = i * 6 by omega]
   exact rest_next hrest rfl Zga
  have hsz2 : (cu.toList.take (0 + (i : Int).toNat * 6) ++ zN ++ cu.toList.drop (0 + (i : Int).toNat * 6 + zN.length)).toArray.size = cap * 6 := by
   simp only [List.size_toArray, List.length_append, List.length_take, List.length_drop, Array.length_toList]
   show min _ _ + 6 + (cu.size - (0 + (i : Int).toNat * 6 + 6)) = _
   omega
  rcases Nat.eq_zero_or_pos ks.length with hk0 | hk0
  ·obtain ⟨kp, kc, hkv⟩ := (RdX.own (R := ownH 3 ok) (e := 3) hki (fun p hp => hp)).len
   rw [hkv, hk0] at hcell
   repeat' (first | (apply gL; first | (apply Wl.ev rfl rfl; exact Zcu) | ((show Wl _ _ _ _ _ _ _ (⟨none, .store _ (.tmp 33) _, _, _, _, _⟩ :: _) _ _); refine wl_storeAgg (lv := zN) rfl rfl rfl (szT rfl) Ze (by show 0 + (i : Int).toNat * 6 + 6 ≤ _; omega) Zfr ?_) | apply Wl.nil) | (apply gQ; first | (apply Wq.ev rfl rfl; exact Zcu)) | (apply lW; first | apply W.seq | (refine W.rounds 1 ?_) | apply W.round | apply W.region | apply W.block | apply W.blk | apply W.skip | (refine Zbm ?_) | (refine Zbc ?_) | (refine Zv ?_ ?_ <;> (intro h; try exact Za))))
   all_goals first | (refine W.reC (H' := (⟨b1, true, row [.slice (some ⟨nb, 0, none⟩) N.length cap] 35⟩ : Ent) :: ⟨nb, true, .cells (cu.toList.take (0 + (i : Int).toNat * 6) ++ zN ++ cu.toList.drop (0 + (i : Int).toNat * 6 + zN.length)).toArray 45 (0, 0)⟩ :: (R ++ ndKH (N.drop (i + 1)))) (by intro e; rw [hdr]; simp only [ndKH_cons, List.count_append, cnt_cons]; omega) ?_; exact W.again (i + 1, _) ⟨hlt, hnext, hsz2⟩ (by show N.length - (i + 1) < N.length - i; omega) Zm (List.Sublist.refl _)) | contradiction | exact Zz
  ·obtain ⟨kb, kcap, kcur, rfl, hkcap, hksz, hkget⟩ := own_some hki hk0
   have hkm : kcap ≤ maxLen := hki.2.1
   simp only [maxLen] at hkm
   rw [ownV_some] at hcell
   repeat' (first | (apply gL; first | (apply Wl.ev rfl rfl; exact Zcu) | apply Wl.nil) | (apply gQ; first | (apply Wq.ev rfl rfl; exact Zcu)) | (apply lW; first | apply W.seq | (refine W.reC (H' := (⟨b1, true, row [.slice (some ⟨nb, 0, none⟩) N.length cap] 35⟩ : Ent) :: ⟨nb, true, .cells cu 45 (0, 0)⟩ :: ⟨kb, true, .cells kcur 3 (0, 0)⟩ :: (R ++ ndKH (N.drop (i + 1)))) (by intro e; rw [hdr]; simp only [ndKH_cons, ownH_some, List.count_append, cnt_cons, List.count_nil]; omega) ?_; refine W.loop (X := Nat × Array Value) (fun x => [(1, ptr b1), (2, .int .i64 (i : Nat)), (6, .int .i64 (N.length : Nat)), (7, .int .i64 (i : Nat)), (16, .int .i64 (ks.length : Nat)), (17, .int .i64 (x.1 : Nat))]) (fun x => (⟨b1, true, row [.slice (some ⟨nb, 0, none⟩) N.length cap] 35⟩ : Ent) :: ⟨nb, true, .cells cu 45 (0, 0)⟩ :: ⟨kb, true, .cells x.2 3 (0, 0)⟩ :: (R ++ ndKH (N.drop (i + 1)))) (fun x => x.1 ≤ ks.length ∧ x.2.size = kcap * 1) (fun x => ks.length - x.1) (0, kcur) ⟨Nat.zero_le _, hksz⟩ Zm (List.Sublist.refl _) ?_) | apply W.region | apply W.block | apply W.skip | (refine Zv ?_ ?_ <;> (intro h; try exact Za))))
   rintro ⟨k, kc⟩ ⟨hkk, hkz⟩
   dsimp only at hkk hkz ⊢
   by_cases hlk : k < ks.length
   ·repeat' (first | (apply gL; first | (apply Wl.ev rfl rfl; exact Zcu) | ((show Wl _ _ _ _ _ _ _ (⟨none, .store _ (.tmp 27) _, _, _, _, _⟩ :: _) _ _); refine wl_storeCell rfl rfl rfl rfl (szT rfl) Ze Zga (fun h => absurd h.2 (Nat.not_lt_zero _)) ?_) | apply Wl.nil) | (apply gQ; first | (apply Wq.ev rfl rfl; exact Zcu)) | (apply lW; first | apply W.seq | apply W.region | apply W.block | apply W.blk | apply W.skip | (refine Zv ?_ ?_ <;> (intro h; try exact Za))))
    all_goals first | exact W.again (k + 1, kc.setIfInBounds (0 + (k : Int).toNat * 1) (.int .i64 (-9))) ⟨hlk, by dsimp only; rw [Array.size_setIfInBounds]; exact hkz⟩ (by show ks.length - (k + 1) < ks.length - k; omega) Zm (List.Sublist.refl _) | contradiction | exact Zz
   ·obtain rfl : k = ks.length := by omega
    repeat' (first | (apply gL; first | (apply Wl.ev rfl rfl; exact Zev) | ((show Wl _ _ _ _ _ _ _ (⟨none, .store _ (.tmp 33) _, _, _, _, _⟩ :: _) _ _); refine wl_storeAgg (lv := zN) rfl rfl rfl (szT rfl) Ze (by show 0 + (i : Int).toNat * 6 + 6 ≤ _; omega) Zfr ?_) | apply Wl.nil) | (apply gQ; first | (apply Wq.ev rfl rfl; exact Zev)) | (apply lW; first | apply W.seq | apply W.region | apply W.blk | (refine Zbm ?_) | (refine Zv ?_ ?_ <;> (intro h; try exact Za))))
    all_goals first | (refine W.reC (H' := (⟨b1, true, row [.slice (some ⟨nb, 0, none⟩) N.length cap] 35⟩ : Ent) :: ⟨nb, true, .cells (cu.toList.take (0 + (i : Int).toNat * 6) ++ zN ++ cu.toList.drop (0 + (i : Int).toNat * 6 + zN.length)).toArray 45 (0, 0)⟩ :: (R ++ ndKH (N.drop (i + 1)))) (by intro e; simp only [List.count_append, cnt_cons]; omega) ?_; exact W.again (i + 1, _) ⟨hlt, hnext, hsz2⟩ (by show N.length - (i + 1) < N.length - i; omega) Zm (List.Sublist.refl _)) | contradiction | exact Zz
 ·obtain rfl : i = N.length := by omega
  repeat' (first | (apply gL; first | (apply Wl.ev rfl rfl; exact Zev) | apply Wl.nil) | (apply gQ; first | (apply Wq.ev rfl rfl; exact Zev)) | (apply lW; first | apply W.seq | apply W.region | (refine Zbm ?_) | (refine Zv ?_ ?_ <;> (intro h; try exact Za)) | (refine W.end0 rfl ?_; intro w hs)))
  all_goals first | exact GivesS.ofC hst hs () trivial rfl Zcz | contradiction | exact Zz
end Go.Proofs.YtbinaeemcidicaaGreat
