/- A walk of the document's Lex. No condition. -/
import Derived.Test.YtbinaeemcidicaaGreatZLA
import Derived.Test.YtbinaeemcidicaaGreatZQI
set_option maxRecDepth 100000
set_option maxHeartbeats 16000000
namespace Go.Proofs.YtbinaeemcidicaaGreat
open Go.PB Go.RowKit
attribute [local irreducible] Go.Calls
theorem nl_succ {s : List UInt8} {f : Nat} (h : f < s.length) : nlN (s.take (f + 1)) = nlN (s.take f) + (if s.getD f 0 = 10 then 1 else 0) := by
 unfold nlN
 rw [take_snoc' h, List.count_append]
 congr 1
 rw [List.count_singleton]
 simp
theorem nl_le {s : List UInt8} {f : Nat} : nlN (s.take f) ≤ s.length := by
 have : nlN (s.take f) ≤ (s.take f).length := List.count_le_length
 simp only [List.length_take] at this
 omega
theorem lex10_ok (s : List UInt8) (hlong : s.length ≤ 9223372036854775807) (w : World) : Calls Tryz.prog 38 #[st s] w (LexG (lexS s) w) := by
 refine calls_of_W (vs := [st s]) Tryz.func38 rfl Tryz.ntmps38 (Nat.le_of_ble_eq_true rfl) (St.nil w []) ?_
 simp only [argL]
 by_cases hl : 8192 < s.length
 ·have e : lexS s = ([], 3, 0) := by unfold lexS; rw [if_pos hl]
  rw [e]
  repeat' (first | (apply gL; first | (apply Wl.ev rfl rfl; exact Zev) | apply Wl.nil | (refine Zu ?_; intro b) | (refine Zf8 ?_)) | (apply gQ; first | (apply Wq.ev rfl rfl; exact Zev)) | (apply lW; first | apply W.seq | (refine Zgx ?_; intro w hs) | apply W.region | (refine Zv ?_ ?_ <;> (intro h; try exact Zh))))
  exact ret_new hs none ⟨rfl, rfl⟩ rfl SubH.nil
 ·rw [lexS_eq Zga]
  have hl1 : s.length ≤ 1000000 := by omega
  repeat' (first | (apply gL; first | (apply Wl.ev rfl rfl; exact Zev) | (refine Zu ?_; intro sb) | apply Wl.nil) | (apply gQ; first | (apply Wq.ev rfl rfl; exact Zev)) | (apply lW; first | apply W.seq | (refine W.loop (X := Nat × Nat × List Tk × Ow) (fun x => [(0, st s), (3, ptr sb), (4, ownV x.2.2.1.length x.2.2.2), (5, .int .i64 (nlN (s.take x.2.1) : Nat)), (6, .int .i64 (x.2.1 : Nat)), (7, .int .i64 (x.1 : Nat))]) (fun x => ⟨sb, true, row [.int .i64 0, .int .i64 0] 28⟩ :: ownH 42 x.2.2.2) (fun x => x.1 ≤ s.length ∧ x.2.1 ≤ x.1 ∧ x.2.2.1.length ≤ 2048 ∧ ownOk x.2.2.1.length 5 (tksC x.2.2.1) x.2.2.2 ∧ lexR s x.1 x.2.2.1 = lexR s 0 []) (fun x => s.length - x.1) (0, 0, [], none) ⟨Nat.zero_le _, Nat.le_refl _, by simp, ⟨rfl, rfl⟩, rfl⟩ Zm Zb ?_) | apply W.region | apply W.block | apply W.skip | (refine Zv ?_ ?_ <;> (intro h; try exact Zh))))
  rintro ⟨i, fr, acc, o⟩ ⟨hi, hfr, hacc, hok, hlx⟩
  dsimp only at hi hfr hacc hok hlx ⊢
  have sk := skip10_ok s i hl1 hi
  rw [lexR_eq s i acc hi] at hlx
  have hsl := skip_le (s.drop i)
  obtain ⟨R, hR⟩ : ∃ R, skipS (s.drop i) = R := ⟨_, rfl⟩
  rw [hR] at hlx sk hsl
  rw [List.length_drop] at hsl
  obtain ⟨q, hq⟩ : ∃ q, i + R.1 = q := ⟨_, rfl⟩
  rw [hq] at hlx sk
  have hqs : q ≤ s.length := by omega
  obtain ⟨X, hX⟩ : ∃ X, lexR s 0 [] = X := ⟨_, rfl⟩
  rw [hX] at hlx ⊢
  by_cases h1 : R.2 = false
  ·rw [if_pos h1] at hlx
   rw [h1] at sk
   subst hlx
   repeat' (first | (apply gL; first | (apply Wl.ev rfl rfl; exact Zev) | (refine lD 59 ?_; refine wl_call0 rfl rfl has59 rfl (fun w _ => sk w) ?_) | apply Wl.nil | (refine Zf8 ?_)) | (apply gQ; first | (apply Wq.ev rfl rfl; exact Zev)) | (apply lW; first | apply W.seq | (refine Zgx ?_; intro w hs) | apply W.region | apply W.block | (refine Zbh ?_)))
   exact ret_new hs none ⟨rfl, rfl⟩ rfl SubH.nil
  rw [if_neg h1] at hlx
  have h1' : R.2 = true := by simpa using h1
  rw [h1'] at sk
  by_cases h2 : q = s.length
  ·rw [if_pos h2] at hlx
   subst hlx
   repeat' (first | (apply gL; first | (apply Wl.ev rfl rfl; exact Zev) | (refine lD 59 ?_; refine wl_call0 rfl rfl has59 rfl (fun w _ => sk w) ?_) | apply Wl.nil | (refine Zf8 ?_)) | (apply gQ; first | (apply Wq.ev rfl rfl; exact Zev)) | (apply lW; first | apply W.seq | (refine Zgx ?_; intro w hs) | apply W.region | apply W.block | apply W.skip | (refine Zbc ?_) | (refine Zv ?_ ?_ <;> (intro h; try exact Zh))))
   exact ret_new hs o hok rfl (by rw [ents_owN]; exact Zb)
  rw [if_neg h2] at hlx
  obtain ⟨l, hls⟩ : ∃ l, s.drop q = l := ⟨_, rfl⟩
  have tk := token10_ok s q hl1 Zga
  have htm := tok_m l
  unfold errAt tkAt at hlx
  rw [hls] at hlx tk
  generalize tokS l = T at tk htm hlx
  obtain ⟨e, k, m, x⟩ := T
  dsimp only at htm hlx
  by_cases h4 : e = 0
  ·subst h4
   rw [show tokE ⟨0, k, m, x⟩ = ⟨0, k, m, x⟩ from rfl] at tk
   simp only [tokR, tokC] at tk
   by_cases h5 : acc.length = 2048
   ·rw [if_pos (by simp [h5])] at hlx
    rw [if_pos (by simp [h5])] at hlx
    subst hlx
    repeat' (first | (apply gL; first | (apply Wl.ev rfl rfl; exact Zca) | (refine lD 59 ?_; refine wl_call0 rfl rfl has59 rfl (fun w _ => sk w) ?_) | (refine lD 60 ?_; refine wl_call0 rfl rfl has60 rfl (fun w _ => tk w) ?_) | apply Wl.nil | (refine Zbb ?_) | (refine Zu ?_; intro b) | (refine Zf8 ?_)) | (apply gQ; first | (apply Wq.ev rfl rfl; exact Zca)) | (apply lW; first | apply W.seq | (refine Zgx ?_; intro w hs) | apply W.region | apply W.block | apply W.skip | (refine Zbh ?_) | (refine Zbc ?_) | (refine Zv ?_ ?_ <;> (intro h; try exact Zh))))
    all_goals exact ret_new hs none ⟨rfl, rfl⟩ rfl SubH.nil
   ·rw [if_neg (by simp [h5])] at hlx
    have hml : l.length + q = s.length := by rw [← hls]; simp; omega
    have htl : (l.take m).length = m := by simp; omega
    have hm1 := htm.2 rfl
    obtain ⟨Y, hY⟩ : ∃ Y : Tk, ({ k := k, t := l.take m, x := x, at_ := q, ln := nlN (s.take q) } : Tk) = Y := ⟨_, rfl⟩
    rw [hY] at hlx
    repeat' (first | (apply gL; first | (apply Wl.ev rfl rfl; exact Zca) | (refine Zu ?_; intro tb) | (refine lD 59 ?_; refine wl_call0 rfl rfl has59 rfl (fun w _ => sk w) ?_) | (refine lD 60 ?_; refine wl_call0 rfl rfl has60 rfl (fun w _ => tk w) ?_) | apply Wl.nil | (refine Zbb ?_) | (refine Zf8 ?_)) | (apply gQ; first | (apply Wq.ev rfl rfl; exact Zca)) | (apply lW; first | apply W.seq | (refine W.loop (X := Nat) (fun f => [(0, st s), (3, ptr sb), (4, ownV acc.length o), (5, .int .i64 (nlN (s.take f) : Nat)), (6, .int .i64 (f : Nat)), (7, .int .i64 (i : Nat)), (8, .int .i64 (q : Nat)), (10, ptr tb)]) (fun _ => ⟨tb, true, row [.int .i64 k, st (l.take m), .int .i32 x, .int .i64 0, .int .i64 0] 42⟩ :: ⟨sb, true, row [.int .i64 0, .int .i64 0] 28⟩ :: ownH 42 o) (fun f => fr ≤ f ∧ f ≤ q) (fun f => q - f) fr ⟨Nat.le_refl _, by omega⟩ Zm Zb ?_) | apply W.region | apply W.block | apply W.skip | (refine Zbc ?_) | (refine Zv ?_ ?_ <;> (intro h; try exact Zh))))
    all_goals
     rintro f ⟨hf1, hf2⟩
     by_cases hfq : f < q
     ·have hn := nl_succ (s := s) (f := f) Zga
      have hle := nl_le (s := s) (f := f)
      obtain ⟨V, hV⟩ : ∃ V, nlN (s.take f) = V := ⟨_, rfl⟩
      rw [hV] at hn hle ⊢
      by_cases hten : s.getD f 0 = 10
      ·rw [if_pos hten] at hn
       have ht : ((s.getD f 0).toNat : Int) = 10 := by rw [hten]; rfl
       repeat' (first | (apply gL; first | (apply Wl.ev rfl rfl; exact Zde) | apply Wl.nil) | (apply gQ; first | (apply Wq.ev rfl rfl; exact Zde)) | (apply lW; first | apply W.seq | apply W.region | apply W.block | apply W.blk | apply W.skip | (refine Zv ?_ ?_ <;> (intro h; try exact Zh))))
       refine W.again (f + 1) ⟨by omega, by omega⟩ Zga ?_ Zb
       rw [hn]
       exact Zm
      ·rw [if_neg hten] at hn
       have ht := by_ne hten
       repeat' (first | (apply gL; first | (apply Wl.ev rfl rfl; exact Zde) | apply Wl.nil) | (apply gQ; first | (apply Wq.ev rfl rfl; exact Zde)) | (apply lW; first | apply W.seq | apply W.region | apply W.block | apply W.blk | apply W.skip | (refine Zv ?_ ?_ <;> (intro h; try exact Zh))))
       refine W.again (f + 1) ⟨by omega, by omega⟩ Zga ?_ Zb
       rw [hn]
       exact Zm
     ·obtain rfl : f = q := by omega
      repeat' (first | (apply gL; first | (apply Wl.ev rfl rfl; exact Zev) | (refine Zkp ?_; intro o' hok') | apply Wl.nil | (refine Zf9 ?_; try simp only [List.set]) | (apply wl_buildSlice rfl rfl (slT rfl) (szT rfl) (zeroT rfl) rfl Zf7 rfl; exact Zq; intro b)) | (apply gQ; first | (apply Wq.ev rfl rfl; exact Zev)) | (apply lW; first | apply W.seq | apply W.region | apply W.blk | (refine Zbm ?_) | (refine Zv ?_ ?_ <;> (intro h; try exact Zh))))
      rw [htl]
      refine W.again (f + m, f, acc ++ [Y], o') ⟨by dsimp only; omega, by dsimp only; omega, by simp; omega, by simp only [tksC_snoc, List.length_append]; exact hok', by first | exact hlx | exact hlx.trans hX.symm⟩ Zm1 ?_ Zb
      dsimp only
      rw [show (acc ++ [Y]).length = acc.length + 1 by simp]
      exact Zm
  ·rw [show tokE ⟨e, k, m, x⟩ = ⟨e, 0, 0, 0⟩ from if_neg h4] at tk
   simp only [tokR, tokC] at tk
   by_cases h3 : e = 120 ∧ acc.length = 2048
   ·obtain ⟨rfl, h3b⟩ := h3
    rw [if_pos (by simp [h3b]), if_pos (by simp [h3b])] at hlx
    subst hlx
    repeat' (first | (apply gL; first | (apply Wl.ev rfl rfl; exact Zca) | (refine lD 59 ?_; refine wl_call0 rfl rfl has59 rfl (fun w _ => sk w) ?_) | (refine lD 60 ?_; refine wl_call0 rfl rfl has60 rfl (fun w _ => tk w) ?_) | apply Wl.nil | (refine Zu ?_; intro b) | (refine Zf8 ?_)) | (apply gQ; first | (apply Wq.ev rfl rfl; exact Zca)) | (apply lW; first | apply W.seq | (refine Zgx ?_; intro w hs) | apply W.region | apply W.block | apply W.skip | (refine Zbh ?_) | (refine Zbc ?_) | (refine Zv ?_ ?_ <;> (intro h; try exact Zh))))
    all_goals exact ret_new hs none ⟨rfl, rfl⟩ rfl SubH.nil
   ·have h3' : ¬((e = 0 ∨ e = 120) ∧ acc.length = 2048) := fun h => h3 ⟨h.1.resolve_left h4, h.2⟩
    rw [if_neg h3', if_pos h4] at hlx
    subst hlx
    repeat' (first | (apply gL; first | (apply Wl.ev rfl rfl; exact Zca) | (refine lD 59 ?_; refine wl_call0 rfl rfl has59 rfl (fun w _ => sk w) ?_) | (refine lD 60 ?_; refine wl_call0 rfl rfl has60 rfl (fun w _ => tk w) ?_) | apply Wl.nil | (refine Zbb ?_) | (refine Zu ?_; intro b) | (refine Zf8 ?_) | ((fail_if_success (apply Wl.chk rfl)); refine Wl.split rfl rfl ?_ ?_ <;> (intro h; try exact Zh))) | (apply gQ; first | (apply Wq.ev rfl rfl; exact Zca)) | (apply lW; first | apply W.seq | (refine Zgx ?_; intro w hs) | apply W.region | apply W.block | apply W.skip | (refine Zbc ?_) | (refine Zv ?_ ?_ <;> (intro h; try exact Zh))))
    all_goals exact ret_new hs none ⟨rfl, rfl⟩ rfl SubH.nil
end Go.Proofs.YtbinaeemcidicaaGreat
namespace Go.Proofs.YtbinaeemcidicaaGreat
open Go.PB Go.RowKit
attribute [local irreducible] Go.Calls
theorem tisC_getZ {l : List Ti} {j i : Nat} {v : Value} (hj : j < l.length) (h : (tiC (l.getD j ⟨0, [], 0, 0, 0⟩))[i]? = some v) : (tisC l)[j * 5 + i]? = some v := tisC_get hj h
theorem TokAt.ti {w : World} {v : Value} {l : List Tk} (h : TokAt w v l) : TiAt w v (l.map tiOf) := by
 rcases h with ⟨p, c, h1, rfl⟩ | ⟨b, off, c, arr, et, fr, h1, h2, h3⟩
 ·exact .inl ⟨p, c, h1, rfl⟩
 ·exact .inr ⟨b, off, c, arr, et, fr, by rw [List.length_map]; exact h1, h2, fun j u hj => h3 j u (by rw [← tisC_of]; exact hj)⟩
theorem core_atI {l m : List Ti} {j : Nat} {A B : Ti} (h1 : j < l.length) (h2 : j < m.length) (hA : l.getD j ⟨0, [], 0, 0, 0⟩ = A) (hB : m.getD j ⟨0, [], 0, 0, 0⟩ = B) (h : l.map coreI = m.map coreI) : coreI A = coreI B := by
 have e := congrArg (·[j]?) h
 simp only [List.getElem?_map, List.getElem?_eq_getElem h1, List.getElem?_eq_getElem h2, Option.map_some, Option.some.injEq] at e
 rw [← hA, ← hB]
 simpa [List.getD, h1, h2] using e
theorem same10_ok (v u : Value) (l m : List Ti) (w : World) (hv : TiAt w v l) (hu : TiAt w u m) (hl : l.length ≤ 1000000) (hm : m.length ≤ 1000000) :
  Calls Tryz.prog 39 #[v, u] w (Give (.bool (decide (l.map coreI = m.map coreI))) w) := by
 by_cases hlen : l.length = m.length
 ·rcases Nat.eq_zero_or_pos l.length with h0 | h0
  ·obtain rfl : l = [] := List.eq_nil_of_length_eq_zero h0
   obtain rfl : m = [] := List.eq_nil_of_length_eq_zero Zga
   obtain ⟨p, c, rfl⟩ : ∃ p c, v = .slice p 0 c := by
    rcases hv with ⟨p, c, h, _⟩ | ⟨b, off, c, _, _, _, h, _⟩
    ·exact ⟨p, c, h⟩
    ·exact ⟨_, _, h⟩
   obtain ⟨p', c', rfl⟩ : ∃ p c, u = .slice p 0 c := by
    rcases hu with ⟨p, c, h, _⟩ | ⟨b, off, c, _, _, _, h, _⟩
    ·exact ⟨p, c, h⟩
    ·exact ⟨_, _, h⟩
   refine give_of_W (vs := [.slice p 0 c, .slice p' 0 c']) Tryz.func39 rfl Tryz.ntmps39 (Nat.le_of_ble_eq_true rfl) (St.nil w _) ?_
   simp only [argL, Nat.zero_add]
   repeat' (first | (apply gL; first | (apply Wl.ev rfl rfl; exact Zev) | apply Wl.nil) | (apply gQ; first | (apply Wq.ev rfl rfl; exact Zev)) | (apply lW; first | apply W.seq | (refine W.rounds 1 ?_) | apply W.round | apply W.region | apply W.block | apply W.skip | (refine Zbm ?_) | (refine Zbc ?_) | (refine Zx ?_; intro w hs)))
   exact ret_eq hs rfl
  ·rcases hv with ⟨p, c, _, h⟩ | ⟨b, off, c, arr, et, fr, rfl, hb, hc⟩
   ·rw [h] at h0; simp at h0
   rcases hu with ⟨p, c, _, h⟩ | ⟨b', off', c', arr', et', fr', rfl, hb', hc'⟩
   ·rw [h] at hlen; simp only [List.length_nil] at hlen; omega
   have hs0 : St [] w w [⟨b, false, .cells arr et fr⟩, ⟨b', false, .cells arr' et' fr'⟩] := by
    refine ⟨rfl, rfl, rfl, Nat.le_refl _, fun _ _ _ => rfl, fun p hp => ?_, by simp⟩
    rcases List.mem_cons.1 hp with rfl | hp
    ·exact ⟨hb, fun h => by cases h⟩
    ·rcases List.mem_cons.1 hp with rfl | hp
     ·exact ⟨hb', fun h => by cases h⟩
     ·cases hp
   refine give_of_W (vs := [.slice (some ⟨b, off, none⟩) l.length c, .slice (some ⟨b', off', none⟩) m.length c']) Tryz.func39 rfl Tryz.ntmps39 (Nat.le_of_ble_eq_true rfl) hs0 ?_
   simp only [argL, Nat.zero_add]
   repeat' (first | (apply gL; first | (apply Wl.ev rfl rfl; exact Zev) | apply Wl.nil) | (apply gQ; first | (apply Wq.ev rfl rfl; exact Zev)) | (apply lW; first | apply W.seq | (refine W.loop (X := Nat) (fun j => [(0, .slice (some ⟨b, off, none⟩) l.length c), (1, .slice (some ⟨b', off', none⟩) m.length c'), (12, .int .i64 (l.length : Nat)), (13, .int .i64 (j : Nat))]) (fun _ => [⟨b, false, .cells arr et fr⟩, ⟨b', false, .cells arr' et' fr'⟩]) (fun j => j ≤ l.length ∧ ∀ i, i < j → coreI (l.getD i ⟨0, [], 0, 0, 0⟩) = coreI (m.getD i ⟨0, [], 0, 0, 0⟩)) (fun j => l.length - j) 0 ⟨Nat.zero_le _, fun i h => absurd h (Nat.not_lt_zero _)⟩ Zm Zb ?_) | apply W.region | apply W.block | apply W.skip | (refine Zv ?_ ?_ <;> (intro h; try exact Zh))))
   rintro j ⟨hj, heq⟩
   by_cases hlt : j < l.length
   ·obtain ⟨A, hA⟩ : ∃ A, l.getD j ⟨0, [], 0, 0, 0⟩ = A := ⟨_, rfl⟩
    obtain ⟨B, hB⟩ : ∃ B, m.getD j ⟨0, [], 0, 0, 0⟩ = B := ⟨_, rfl⟩
    have ga : ∀ o', o' = off + j * 5 → ∀ i v, (tiC A)[i]? = some v → arr[o' + i]? = some v := fun o' e i v h => by
     rw [e, Nat.add_assoc]
     exact hc _ _ (tisC_getZ hlt (by rw [hA]; exact h))
    have gb : ∀ o', o' = off' + j * 5 → ∀ i v, (tiC B)[i]? = some v → arr'[o' + i]? = some v := fun o' e i v h => by
     rw [e, Nat.add_assoc]
     exact hc' _ _ (tisC_getZ Zga (by rw [hB]; exact h))
    have la : ∀ (i o' : Nat) v, o' = off + j * 5 + i → (tiC A)[i]? = some v → arr[o']? = some v := fun i o' v e h => by rw [e]; exact ga _ rfl i v h
    have lb : ∀ (i o' : Nat) v, o' = off' + j * 5 + i → (tiC B)[i]? = some v → arr'[o']? = some v := fun i o' v e h => by rw [e]; exact gb _ rfl i v h
    obtain ⟨k1, t1, x1, i1, n1⟩ := A
    obtain ⟨k2, t2, x2, i2, n2⟩ := B
    by_cases hAB : coreI ⟨k1, t1, x1, i1, n1⟩ = coreI ⟨k2, t2, x2, i2, n2⟩
    ·have hn : ∀ i, i < j + 1 → coreI (l.getD i ⟨0, [], 0, 0, 0⟩) = coreI (m.getD i ⟨0, [], 0, 0, 0⟩) := fun i hi => by
      rcases Nat.lt_or_ge i j with h | h
      ·exact heq i h
      ·rw [show i = j by omega, hA, hB, hAB]
     obtain ⟨e1, e2, e3⟩ : k1 = k2 ∧ t1 = t2 ∧ x1 = x2 := by simpa [coreI] using hAB
     subst e1 e2 e3
     repeat' (first | (apply gL; first | (apply Wl.ev rfl rfl; exact Zbi) | apply Wl.nil) | (apply gQ; first | (apply Wq.ev rfl rfl; exact Zbi) | apply Wq.nil | ((fail_if_success (apply Wq.chk rfl)); refine Wq.split rfl rfl ?_ ?_ <;> (intro h; try exact Zh))) | (apply lW; first | apply W.seq | (refine W.again (j + 1) ⟨by omega, hn⟩ Zga Zm Zb) | (refine Zgf ?_) | apply W.region | apply W.block | apply W.blk | apply W.skip | (refine Zv ?_ ?_ <;> (intro h; try exact Zh))))
    ·have hne : l.map coreI ≠ m.map coreI := fun e => hAB (core_atI hlt Zga hA hB e)
     repeat' (first | (apply gL; first | (apply Wl.ev rfl rfl; exact Zbi) | apply Wl.nil) | (apply gQ; first | (apply Wq.ev rfl rfl; exact Zbi) | apply Wq.nil | (refine Zb4 ?_) | ((fail_if_success (apply Wq.chk rfl)); refine Wq.split rfl rfl ?_ ?_ <;> (intro h; try exact Zh))) | (apply lW; first | apply W.seq | (refine Zgf ?_) | apply W.region | apply W.block | apply W.blk | apply W.skip | (refine Zbh ?_) | (refine Zv ?_ ?_ <;> (intro h; try exact Zh)) | (refine Zx ?_; intro w hs)))
     all_goals first
      | exact ret_eq hs (congrArg Value.bool (decide_eq_false hne).symm)
      | (exfalso; simp_all [coreI]; done)
   ·have he : l.map coreI = m.map coreI := List.ext_getElem (by simpa using hlen) fun i h1 h2 => by
     simp only [List.length_map] at h1 h2
     have := heq i Zga
     simpa [List.getD, h1, h2] using this
    repeat' (first | (apply gL; first | (apply Wl.ev rfl rfl; exact Zev) | apply Wl.nil) | (apply gQ; first | (apply Wq.ev rfl rfl; exact Zev)) | (apply lW; first | apply W.seq | apply W.region | (refine Zbm ?_) | (refine Zv ?_ ?_ <;> (intro h; try exact Zh)) | (refine Zx ?_; intro w hs)))
    exact ret_eq hs (congrArg Value.bool (decide_eq_true he).symm)
 ·have hne : l.map coreI ≠ m.map coreI := fun e => hlen (by have := congrArg List.length e; simpa using this)
  obtain ⟨p, c, rfl⟩ : ∃ p c, v = .slice p l.length c := by
   rcases hv with ⟨p, c, h, rfl⟩ | ⟨b, off, c, _, _, _, h, _⟩
   ·exact ⟨p, c, h⟩
   ·exact ⟨_, _, h⟩
  obtain ⟨p', c', rfl⟩ : ∃ p c, u = .slice p m.length c := by
   rcases hu with ⟨p, c, h, rfl⟩ | ⟨b, off, c, _, _, _, h, _⟩
   ·exact ⟨p, c, h⟩
   ·exact ⟨_, _, h⟩
  refine give_of_W (vs := [.slice p l.length c, .slice p' m.length c']) Tryz.func39 rfl Tryz.ntmps39 (Nat.le_of_ble_eq_true rfl) (St.nil w _) ?_
  simp only [argL, Nat.zero_add]
  repeat' (first | (apply gL; first | (apply Wl.ev rfl rfl; exact Zev) | apply Wl.nil) | (apply gQ; first | (apply Wq.ev rfl rfl; exact Zev)) | (apply lW; first | apply W.seq | apply W.region | (refine Zv ?_ ?_ <;> (intro h; try exact Zh)) | (refine Zx ?_; intro w hs)))
  exact ret_eq hs (congrArg Value.bool (decide_eq_false hne).symm)
theorem TiAt.new {M : List Nat} {w0 w : World} {H : List Ent} {b c : Nat} {cur : Array Value} {l : List Ti} {wr : Bool} (hs : St M w0 w H) (hm : (⟨b, wr, .cells cur 42 (0, 0)⟩ : Ent) ∈ H) (h : ∀ (j : Nat) (u : Value), (tisC l)[j]? = some u → cur[j]? = some u) : TiAt w (.slice (some ⟨b, 0, none⟩) l.length c) l :=
 .inr ⟨b, 0, c, cur, _, _, rfl, hs.get hm, fun j u hj => by rw [Nat.zero_add]; exact h j u hj⟩
theorem lexF_len (s : List UInt8) : ∀ (f i : Nat) (acc : List Tk), acc.length ≤ 2048 → (lexF s f i acc).1.length ≤ 2048
 | 0, _, acc, h => h
 | f + 1, i, acc, h => by
  simp only [lexF]
  split
  ·simp
  ·split
   ·exact h
   ·split
    ·simp
    ·rename_i he
     have he := Decidable.not_not.1 he
     refine lexF_len s f _ _ ?_
     have : acc.length ≠ 2048 := fun hc => by
      have h0 := err_tok he
      unfold errAt at he
      rw [if_pos ⟨.inl h0, hc⟩] at he
      cases he
     simp
     omega
theorem lexS_len (s : List UInt8) : (lexS s).1.length ≤ 2048 := by
 unfold lexS
 split
 ·simp
 ·exact lexF_len s _ _ _ Zgn
theorem lex10G_of {x : List UInt8} {T : List Tk} {e : Int} {p : Nat} (hl : x.length ≤ 1000000) (h : lexS x = (T, e, p)) (w : World) :
  Calls Tryz.prog 38 #[st x] w (Gives (fun o : Ow => .tuple #[ownV T.length o, spotV e (p : Nat)]) (fun o => ownOk T.length 5 (tksC T) o) w (fun _ => []) (owN 42)) := by
 have := lex10_ok x Zga w
 rw [h] at this
 exact this
theorem right_ok (v : Value) (l : List Ti) (w : World) (hv : TiAt w v l) (hl : l.length ≤ 1000000) (ht : ∀ t ∈ l, t.t.length ≤ 1000000) :
  Calls Tryz.prog 17 #[v] w (Give (.bool (rightL l)) w) := by
 rcases hv.forms with ⟨p, c, rfl, rfl⟩ | ⟨hpos, b, off, c, arr, et, fr, rfl, hb, hc⟩
 ·refine give_of_W (vs := [.slice p 0 c]) Tryz.func17 rfl Tryz.ntmps17 (Nat.le_of_ble_eq_true rfl) (St.nil w _) ?_
  simp only [argL]
  repeat' (first | (apply gL; first | (apply Wl.ev rfl rfl; exact Zev) | apply Wl.nil) | (apply gQ; first | (apply Wq.ev rfl rfl; exact Zev)) | (apply lW; first | apply W.seq | (refine W.rounds 1 ?_) | apply W.round | apply W.region | apply W.block | apply W.skip | (refine Zbm ?_) | (refine Zbc ?_) | (refine Zx ?_; intro w hs)))
  all_goals exact ret_eq hs rfl
 ·refine give_of_W (vs := [.slice (some ⟨b, off, none⟩) l.length c]) Tryz.func17 rfl Tryz.ntmps17 (Nat.le_of_ble_eq_true rfl) (St.read hb []) ?_
  simp only [argL]
  by_cases h48 : 2048 < l.length
  ·have hno : rightL l = false := by
    unfold rightL
    rw [decide_eq_false Zga]
    rfl
   repeat' (first | (apply gL; first | (apply Wl.ev rfl rfl; exact Zev) | apply Wl.nil) | (apply gQ; first | (apply Wq.ev rfl rfl; exact Zev)) | (apply lW; first | apply W.seq | apply W.region | (refine Zv ?_ ?_ <;> (intro h; try exact Zh)) | (refine Zx ?_; intro w hs)))
   all_goals exact ret_eq hs (congrArg Value.bool hno.symm)
  ·repeat' (first | (apply gL; first | (apply Wl.ev rfl rfl; exact Zev) | apply Wl.nil) | (apply gQ; first | (apply Wq.ev rfl rfl; exact Zev)) | (apply lW; first | apply W.seq | (refine Zgw ?_) | apply W.region | apply W.block | apply W.skip | (refine Zv ?_ ?_ <;> (intro h; try exact Zh))))
   rintro j ⟨hj, hall⟩
   by_cases hlt : j < l.length
   ·obtain ⟨A, hA⟩ : ∃ A, l.getD j ⟨0, [], 0, 0, 0⟩ = A := ⟨_, rfl⟩
    have hAl : A.t.length ≤ 1000000 := ht A (by rw [← hA]; simp [List.getD, hlt])
    have ga : ∀ o', o' = off + j * 5 → ∀ i v, (tiC A)[i]? = some v → arr[o' + i]? = some v := fun o' e i v h => by
     rw [e, Nat.add_assoc]
     exact hc _ _ (tisC_getZ hlt (by rw [hA]; exact h))
    obtain ⟨K, tx, X, a0, n0⟩ := A
    replace ga : ∀ o', o' = off + j * 5 → ∀ i v, ([.int .i64 K, st tx, .int .i32 X, .int .i64 a0, .int .i64 n0] : List Value)[i]? = some v → arr[o' + i]? = some v := ga
    replace hAl : tx.length ≤ 1000000 := hAl
    obtain ⟨⟨T, e, p⟩, hR⟩ : ∃ R, lexS tx = R := ⟨_, rfl⟩
    have hcA : coreI (l.getD j ⟨0, [], 0, 0, 0⟩) = (K, tx, X) := by rw [hA]; rfl
    have hslf := slfB_lex (K := K) (X := X) hR
    have lxg := lex10G_of hAl hR
    have hTl : T.length ≤ 2048 := by
     have := lexS_len tx
     rw [hR] at this
     exact this
    by_cases h64 : 64 < tx.length
    ·have hno : rightL l = false := rightL_no hlt (by
      rw [hcA]
      cases h : slfB (K, tx, X) with
      | false => rfl
      | true =>
       have := slf_len (slfB_iff.1 h)
       omega)
     repeat' (first | (apply gL; first | (apply Wl.ev rfl rfl; exact Zil) | ((show Wl _ _ _ _ _ _ _ (⟨_, .alloc 42, _, _, _, _⟩ :: _) _ _); refine wl_alloc rfl rfl (zeroT rfl) ?_; intro tb) | apply Wl.nil | (refine Zf8 ?_)) | (apply gQ; first | (apply Wq.ev rfl rfl; exact Zil)) | (apply lW; first | apply W.seq | apply W.region | apply W.block | apply W.skip | (refine Zv ?_ ?_ <;> (intro h; try exact Zh)) | (refine Zx ?_; intro w hs)))
     all_goals exact ret_eq hs (congrArg Value.bool hno.symm)
    ·by_cases he : e = 0
     ·subst he
      by_cases hs1 : (T.map tiOf).map coreI = ([⟨K, tx, X, a0, n0⟩] : List Ti).map coreI
      ·have hcr : T.map core = [(K, tx, X)] := by
        rw [List.map_map] at hs1
        exact hs1
       have hn : ∀ i, i < j + 1 → slfB (coreI (l.getD i ⟨0, [], 0, 0, 0⟩)) = true := fun i hi => by
        rcases Nat.lt_or_ge i j with h | h
        ·exact hall i h
        ·rw [show i = j by omega, hcA, hslf, decide_eq_true_iff]
         exact ⟨rfl, hcr⟩
       have sm : ∀ v u w, TiAt w v (T.map tiOf) → TiAt w u [⟨K, tx, X, a0, n0⟩] → Calls Tryz.prog 39 #[v, u] w (Give (.bool true) w) := fun v u w h1 h2 => by
        have := same10_ok v u _ _ w h1 h2 Zjw Zgn
        rwa [decide_eq_true hs1] at this
       repeat' (first | (apply gL; first | (apply Wl.ev rfl rfl; exact Zil) | ((show Wl _ _ _ _ _ _ _ (⟨_, .alloc 42, _, _, _, _⟩ :: _) _ _); refine wl_alloc rfl rfl (zeroT rfl) ?_; intro tb) | (refine lD 38 ?_; refine wl_callY rfl rfl has38 rfl (fun w _ => lxg w) ?_; intro oz hoz; simp only [ents_owN, List.cons_append, List.nil_append]) | (refine lD 39 ?_; refine wl_call0 rfl rfl has39 rfl Zex ?_) | apply Wl.nil | (refine Zu ?_; intro b) | (refine Zf8 ?_) | (apply wl_buildSlice rfl rfl (slT rfl) (szT rfl) (zeroT rfl) rfl Zf7 rfl; exact Zq; intro b)) | (apply gQ; first | (apply Wq.ev rfl rfl; exact Zil)) | (apply lW; first | apply W.seq | (refine W.again (j + 1) ⟨by omega, hn⟩ Zga Zm Zb) | apply W.region | apply W.block | apply W.blk | apply W.skip | (refine Zbc ?_) | (refine Zv ?_ ?_ <;> (intro h; try exact Zh))))
      ·have hno : rightL l = false := rightL_no hlt (by
        rw [hcA, hslf]
        refine decide_eq_false fun h => hs1 ?_
        rw [List.map_map]
        exact h.2)
       have sm : ∀ v u w, TiAt w v (T.map tiOf) → TiAt w u [⟨K, tx, X, a0, n0⟩] → Calls Tryz.prog 39 #[v, u] w (Give (.bool false) w) := fun v u w h1 h2 => by
        have := same10_ok v u _ _ w h1 h2 Zjw Zgn
        rwa [decide_eq_false hs1] at this
       repeat' (first | (apply gL; first | (apply Wl.ev rfl rfl; exact Zil) | ((show Wl _ _ _ _ _ _ _ (⟨_, .alloc 42, _, _, _, _⟩ :: _) _ _); refine wl_alloc rfl rfl (zeroT rfl) ?_; intro tb) | (refine lD 38 ?_; refine wl_callY rfl rfl has38 rfl (fun w _ => lxg w) ?_; intro oz hoz; simp only [ents_owN, List.cons_append, List.nil_append]) | (refine lD 39 ?_; refine wl_call0 rfl rfl has39 rfl Zex ?_) | apply Wl.nil | (refine Zu ?_; intro b) | (refine Zf8 ?_) | (apply wl_buildSlice rfl rfl (slT rfl) (szT rfl) (zeroT rfl) rfl Zf7 rfl; exact Zq; intro b)) | (apply gQ; first | (apply Wq.ev rfl rfl; exact Zil)) | (apply lW; first | apply W.seq | apply W.region | apply W.block | apply W.skip | (refine Zbh ?_) | (refine Zv ?_ ?_ <;> (intro h; try exact Zh)) | (refine Zx ?_; intro w hs)))
       all_goals exact ret_eq hs (congrArg Value.bool hno.symm)
     ·have hno : rightL l = false := rightL_no hlt (by
       rw [hcA, hslf]
       exact decide_eq_false fun h => he h.1)
      repeat' (first | (apply gL; first | (apply Wl.ev rfl rfl; exact Zil) | ((show Wl _ _ _ _ _ _ _ (⟨_, .alloc 42, _, _, _, _⟩ :: _) _ _); refine wl_alloc rfl rfl (zeroT rfl) ?_; intro tb) | (refine lD 38 ?_; refine wl_callY rfl rfl has38 rfl (fun w _ => lxg w) ?_; intro oz hoz; simp only [ents_owN, List.cons_append, List.nil_append]) | apply Wl.nil | (refine Zbb ?_) | (refine Zu ?_; intro b) | (refine Zf8 ?_) | ((fail_if_success (apply Wl.chk rfl)); refine Wl.split rfl rfl ?_ ?_ <;> (intro h; try exact Zh))) | (apply gQ; first | (apply Wq.ev rfl rfl; exact Zil)) | (apply lW; first | apply W.seq | apply W.region | apply W.block | apply W.skip | (refine Zbh ?_) | (refine Zv ?_ ?_ <;> (intro h; try exact Zh)) | (refine Zx ?_; intro w hs)))
      all_goals exact ret_eq hs (congrArg Value.bool hno.symm)
   ·have hyes := rightL_yes (l := l) Zga fun i hi => hall i Zga
    repeat' (first | (apply gL; first | (apply Wl.ev rfl rfl; exact Zev) | apply Wl.nil) | (apply gQ; first | (apply Wq.ev rfl rfl; exact Zev)) | (apply lW; first | apply W.seq | apply W.region | (refine Zbm ?_) | (refine Zv ?_ ?_ <;> (intro h; try exact Zh)) | (refine Zx ?_; intro w hs)))
    all_goals exact ret_eq hs (congrArg Value.bool hyes.symm)
end Go.Proofs.YtbinaeemcidicaaGreat
