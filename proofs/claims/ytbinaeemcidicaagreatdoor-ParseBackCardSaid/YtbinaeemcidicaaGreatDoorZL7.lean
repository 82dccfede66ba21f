/- A walk of the program's Lex. No condition but the cell that the library's search reads. -/
import Derived.Test.YtbinaeemcidicaaGreatDoorZL6
import Derived.Test.YtbinaeemcidicaaGreatDoorZEQ
set_option maxRecDepth 100000
set_option maxHeartbeats 16000000
namespace Go.Proofs.YtbinaeemcidicaaGreatDoor
open Go.PB Go.RowKit
attribute [local irreducible] Go.Calls
def tkC (t : Tk) : List Value := [.int .i64 t.k, st t.t, .int .i32 t.x, .int .i64 (t.at_ : Nat), .int .i64 (t.ln : Nat)]
def tksC (l : List Tk) : List Value := l.flatMap tkC
theorem tksC_snoc (l : List Tk) (t : Tk) : tksC (l ++ [t]) = tksC l ++ tkC t := by simp [tksC]
def owN (e : TypeId) : Ow → List (Nat × Obj)
 | none => []
 | some o => [(o.1, .cells o.2.2 e (0, 0))]
theorem ents_owN (e : TypeId) (o : Ow) : ents (owN e o) = ownH e o := by cases o <;> rfl
abbrev spotV (e a : Int) : Value := .agg #[.int .i64 e, .int .i64 a]
def LexG (R : List Tk × Int × Nat) (w : World) : Ending → World → Prop :=
 Gives (fun o : Ow => .tuple #[ownV R.1.length o, spotV R.2.1 (R.2.2 : Nat)]) (fun o => ownOk R.1.length 5 (tksC R.1) o) w (fun _ => []) (owN 67)
theorem lex_ok (s : List UInt8) (hlong : s.length ≤ 9223372036854775807) (w : World) (hm : Mx w) : Calls Tryz.prog 14 #[st s] w (LexG (lexS s) w) := by
 refine calls_of_W (vs := [st s]) Tryz.func14 rfl Tryz.ntmps14 (Nat.le_of_ble_eq_true rfl) (St.nil w []) ?_
 simp only [argL]
 by_cases hl : 8192 < s.length
 ·have e : lexS s = ([], 3, 0) := by unfold lexS; rw [if_pos hl]
  rw [e]
  repeat' (first | (apply gL; first | (apply Wl.ev rfl rfl; exact Zev) | apply Wl.nil | (refine Zbd ?_; intro b) | (refine Zgb ?_)) | (apply gQ; first | (apply Wq.ev rfl rfl; exact Zev)) | (apply lW; first | apply W.seq | (refine Zhb ?_; intro w hs) | apply W.region | apply W.scope0 | (refine Zz ?_ ?_ <;> (intro h; try exact Zg))))
  exact ret_new hs none ⟨rfl, rfl⟩ rfl SubH.nil
 ·rw [lexS_eq Zf7]
  have hl1 : s.length ≤ 1000000 := by omega
  repeat' (first | (apply gL; first | (apply Wl.ev rfl rfl; exact Zev) | (refine Zc4 ?_; intro rb) | apply Wl.nil | (refine Zbd ?_; intro b)) | (apply gQ; first | (apply Wq.ev rfl rfl; exact Zev)) | (apply lW; first | apply W.seq | apply W.region | apply W.block | apply W.skip | apply W.label | apply W.scope0 | (refine Zz ?_ ?_ <;> (intro h; try exact Zg))))
  refine W.loop (X := Nat × List Tk × Ow) (fun x => [(0, st s), (3, ptr b), (4, ownV x.2.1.length x.2.2), (5, ptr rb), (6, .int .i64 0)])
   (fun x => ⟨rb, true, rdr s x.1 (nlN (s.take x.1))⟩ :: ⟨b, true, row [.int .i64 0, .int .i64 0] 38⟩ :: ownH 67 x.2.2)
   (fun x => x.1 ≤ s.length ∧ x.2.1.length ≤ 2048 ∧ ownOk x.2.1.length 5 (tksC x.2.1) x.2.2 ∧ lexR s x.1 x.2.1 = lexR s 0 []) (fun x => s.length - x.1) (0, [], none) ⟨Nat.zero_le _, by simp, ⟨rfl, rfl⟩, rfl⟩ Zn Ze ?_
  rintro ⟨i, acc, o⟩ ⟨hi, hacc, hok, hlx⟩
  dsimp only at hi hacc hok hlx ⊢
  have hbl : ∀ w, Mx w → w.heap[rb]? = some (rdr s i (nlN (s.take i))) → _ := fun w hm hr => blanks_ok hl1 hi w hm hr
  rw [lexR_eq s i acc hi] at hlx
  have hsl := skip_le (s.drop i)
  obtain ⟨R, hR⟩ : ∃ R, skipS (s.drop i) = R := ⟨_, rfl⟩
  rw [hR] at hlx hbl hsl
  rw [List.length_drop] at hsl
  obtain ⟨q, hq⟩ : ∃ q, i + R.1 = q := ⟨_, rfl⟩
  rw [hq] at hlx hbl
  have hqs : q ≤ s.length := by omega
  obtain ⟨X, hX⟩ : ∃ X, lexR s 0 [] = X := ⟨_, rfl⟩
  rw [hX] at hlx ⊢
  by_cases h1 : R.2 = false
  ·rw [if_pos h1] at hlx
   rw [h1] at hbl
   subst hlx
   repeat' (first | (apply gL; first | (apply Wl.ev rfl rfl; exact Zev) | (refine lD 22 ?_; refine wl_callT0 rfl rfl has22 rfl Zkb Zf ?_) | apply Wl.nil | (refine Zgb ?_)) | (apply gQ; first | (apply Wq.ev rfl rfl; exact Zev) | ((show Wq _ _ (Qt _ _ _ _) _ _ _ _ [] _ _); apply Wq.tail)) | (apply lW; first | apply W.seq | ((show W _ _ _ _ _ _ (.inl (.region 18 _ true) :: _) _ _); refine W.regionT 7 mixed Zj rfl rfl ?_) | (refine Zhb ?_; intro w hs) | apply W.region | apply W.block | (refine Zcm ?_) | (refine Zbk ?_)))
   exact ret_new hs none ⟨rfl, rfl⟩ rfl SubH.nil
  rw [if_neg h1] at hlx
  have h1' : R.2 = true := by simpa using h1
  rw [h1'] at hbl
  by_cases h2 : q = s.length
  ·rw [if_pos h2] at hlx
   subst hlx
   repeat' (first | (apply gL; first | (apply Wl.ev rfl rfl; exact Zev) | (refine lD 22 ?_; refine wl_callT0 rfl rfl has22 rfl Zkb Zf ?_) | apply Wl.nil | (refine Zgb ?_)) | (apply gQ; first | (apply Wq.ev rfl rfl; exact Zev)) | (apply lW; first | apply W.seq | (refine Zhb ?_; intro w hs) | apply W.region | apply W.block | apply W.skip | (refine Zcm ?_) | (refine Zbg ?_) | (refine Zz ?_ ?_ <;> (intro h; try exact Zg))))
   exact ret_new hs o hok rfl (by rw [ents_owN]; exact Ze)
  rw [if_neg h2] at hlx
  obtain ⟨l, hls⟩ : ∃ l, s.drop q = l := ⟨_, rfl⟩
  have tk : ∀ w : World, w.heap[rb]? = some (rdr s q (nlN (s.take q))) → Calls Tryz.prog 23 #[ptr rb] w (Give (tokR (tokS l) l) w) := fun w h => by rw [← hls]; exact token_ok hl1 hqs w h
  have htm := tok_m l
  unfold errAt tkAt at hlx
  rw [hls] at hlx
  generalize tokS l = T at tk htm hlx
  obtain ⟨e, k, m, x⟩ := T
  dsimp only at htm hlx
  simp only [tokR, tokC] at tk
  by_cases h3 : (e = 0 ∨ e = 120) ∧ acc.length = 2048
  ·rw [if_pos h3] at hlx
   subst hlx
   obtain ⟨h3a, h3b⟩ := h3
   repeat' (first | (apply gL; first | (apply Wl.ev rfl rfl; exact Zde) | (refine lD 22 ?_; refine wl_callT0 rfl rfl has22 rfl Zkb Zf ?_) | (refine lD 23 ?_; refine wl_call0 rfl rfl has23 rfl (fun w hs => tk w (hs.get Zd)) ?_) | apply Wl.nil | (refine Zbr ?_) | (refine Zbd ?_; intro b) | (refine Zgb ?_) | ((fail_if_success (apply Wl.chk rfl)); refine Wl.split rfl rfl ?_ ?_ <;> (intro h; try exact Zg))) | (apply gQ; first | (apply Wq.ev rfl rfl; exact Zde) | ((show Wq _ _ (Qt _ _ _ _) _ _ _ _ [] _ _); apply Wq.tail)) | (apply lW; first | apply W.seq | ((show W _ _ _ _ _ _ (.inl (.region 18 _ true) :: _) _ _); refine W.regionT 7 mixed Zj rfl rfl ?_) | (refine Zhb ?_; intro w hs) | apply W.region | apply W.block | apply W.skip | (refine Zcm ?_) | (refine Zbk ?_) | (refine Zbg ?_) | (refine Zz ?_ ?_ <;> (intro h; try exact Zg))))
   all_goals exact ret_new hs none ⟨rfl, rfl⟩ rfl SubH.nil
  rw [if_neg h3] at hlx
  by_cases h4 : e = 0
  ·rw [if_neg (by simp [h4])] at hlx
   have h5 : acc.length ≠ 2048 := fun h => h3 ⟨.inl h4, h⟩
   have hml : l.length + q = s.length := by rw [← hls]; simp; omega
   have htl : (l.take m).length = m := by simp; omega
   have hm1 := htm.2 h4
   subst h4
   have sk : ∀ (w : World), w.heap[rb]? = some (rdr s q (nlN (s.take q))) → Calls Tryz.prog 24 #[ptr rb, .int .i64 ((l.take m).length : Nat)] w (GiveT (.tuple #[]) rb (rdr s (q + m) (nlN (s.take (q + m)))) w) := fun w h => by
    have hn : nlN (s.take q) ≤ 1000000 := by
     have : nlN (s.take q) ≤ (s.take q).length := List.count_le_length
     simp only [List.length_take] at this
     omega
    have := skipm_ok hl1 hn m Zf7 w h
    rw [htl]
    rwa [nl_add] at this
   obtain ⟨Y, hY⟩ : ∃ Y : Tk, ({ k := k, t := l.take m, x := x, at_ := q, ln := nlN (s.take q) } : Tk) = Y := ⟨_, rfl⟩
   rw [hY] at hlx
   repeat' (first | (apply gL; first | (apply Wl.ev rfl rfl; exact Zde) | (refine lD 22 ?_; refine wl_callT0 rfl rfl has22 rfl Zkb Zf ?_) | (refine lD 23 ?_; refine wl_call0 rfl rfl has23 rfl (fun w hs => tk w (hs.get Zd)) ?_) | (refine lD 24 ?_; refine wl_callT0 rfl rfl has24 rfl (fun w hs => sk w (hs.get Zd)) Zf ?_) | (refine wl_append_own (m := acc.length) (k := 1) (news := tkC Y) rfl rfl (slT rfl) (szT rfl) (byT rfl) (zeroT rfl) rfl rfl rfl hok Zd rfl (fun j v h => by rw [← hY] at h; simpa [tkC] using h) (by rw [← hY]; simp [tkC, Value.oneCell']) Zf6 Zcu Zf7 (by repeat (first | exact TailUp.here | apply TailUp.there)) ?_; intro o' hok') | apply Wl.nil | (refine Zbr ?_) | (refine Zbd ?_; intro b) | (refine Zgb ?_) | (refine Zf9 ?_; try simp only [List.set]) | (apply wl_buildSlice rfl rfl (slT rfl) (szT rfl) (zeroT rfl) rfl Zf6 rfl; exact Zt; intro b) | ((fail_if_success (apply Wl.chk rfl)); refine Wl.split rfl rfl ?_ ?_ <;> (intro h; try exact Zg))) | (apply gQ; first | (apply Wq.ev rfl rfl; exact Zde)) | (apply lW; first | apply W.seq | ((show W _ _ _ _ _ _ (.inl (.region 14 _ true) :: _) _ _); refine W.regionD mixed (SubH.drop (List.Sublist.refl _)) ?_) | apply W.region | apply W.block | apply W.blk | apply W.skip | (refine Zbg ?_) | (refine Zz ?_ ?_ <;> (intro h; try exact Zg))) | ((show Wd _ _ _ _ _ _ _ _ _ _ _ _ _); first | ((refine Wd.all Zmi Zk ?_)) | (refine Wd.done Zk ?_) | (refine Wd.not Zk ?_) | (refine Wd.skip Zj rfl Zj Zk rfl rfl Ze ?_) | (refine Wd.take Zj rfl Zj Zk rfl rfl Zde Ze ?_) | (refine Wd.split Zj rfl rfl rfl ?_ ?_ <;> (intro h; try exact Zg)) | (refine Wd.splitB Zj rfl rfl rfl ?_ ?_ <;> (intro h; try exact Zg)) | apply Wd.next) | apply AllO.nil | apply AllO.cons | (refine Or.inl Zk) | ((show _ ∨ Wl _ _ _ _ _ _ _ _ _ _); apply Or.inr) | (refine Wl.nilD Ze ?_))
   all_goals
    refine W.again (q + m, acc ++ [Y], o') ⟨by dsimp only; omega, by simp; omega, by simp only [tksC_snoc, List.length_append]; exact hok', by first | exact hlx | exact hlx.trans hX.symm⟩ (by dsimp only; omega) ?_ Ze
    dsimp only
    rw [show (acc ++ [Y]).length = acc.length + 1 by simp]
    exact Zn
  ·rw [if_pos h4] at hlx
   subst hlx
   repeat' (first | (apply gL; first | (apply Wl.ev rfl rfl; exact Zde) | (refine lD 22 ?_; refine wl_callT0 rfl rfl has22 rfl Zkb Zf ?_) | (refine lD 23 ?_; refine wl_call0 rfl rfl has23 rfl (fun w hs => tk w (hs.get Zd)) ?_) | apply Wl.nil | (refine Zbr ?_) | (refine Zbd ?_; intro b) | (refine Zgb ?_) | ((fail_if_success (apply Wl.chk rfl)); refine Wl.split rfl rfl ?_ ?_ <;> (intro h; try exact Zg))) | (apply gQ; first | (apply Wq.ev rfl rfl; exact Zde) | ((show Wq _ _ (Qt _ _ _ _) _ _ _ _ [] _ _); apply Wq.tail)) | (apply lW; first | apply W.seq | ((show W _ _ _ _ _ _ (.inl (.region 18 _ true) :: _) _ _); refine W.regionT 7 mixed Zj rfl rfl ?_) | (refine Zhb ?_; intro w hs) | apply W.region | apply W.block | apply W.skip | (refine Zcm ?_) | (refine Zbg ?_) | (refine Zz ?_ ?_ <;> (intro h; try exact Zg))))
   all_goals exact ret_new hs none ⟨rfl, rfl⟩ rfl SubH.nil
end Go.Proofs.YtbinaeemcidicaaGreatDoor
