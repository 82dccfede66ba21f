/- A walk of the document's answer: the token at a place. No condition. -/
import Derived.Test.YtbinaeemcidicaaGreatZL9
import Derived.Test.YtbinaeemcidicaaGreatZR7
namespace Go.Proofs.YtbinaeemcidicaaGreat
open Go.PB Go.RowKit
attribute [local irreducible] Go.Calls
/-- what is wrong has no token -/
def tokE (q : Tq) : Tq := if q.e = 0 then q else ⟨q.e, 0, 0, 0⟩
theorem whole_less (l : List UInt8) : wholeS 32768 l = min (wholeS 99999 l) 32768 := by
 have : ∀ (l : List UInt8) (n m : Nat), n = min m 32768 → l.foldl (fun n b => min (n * 10 + (b.toNat - 48)) 32768) n = min (l.foldl (fun n b => min (n * 10 + (b.toNat - 48)) 99999) m) 32768 := by
  intro l
  induction l with
  | nil => intro n m h; exact h
  | cons b l ih =>
   intro n m h
   simp only [List.foldl_cons]
   exact ih _ _ (by omega)
 exact this l 0 0 rfl
theorem cells_get {T : List UInt8} {z j : Nat} (h : j < T.length) : (bytV T ++ List.replicate z (Value.int .u8 0)).toArray[0 + j]? = some (by8 (T.getD j 0)) := by
 simp [bytV, List.getD, List.getElem?_append, h]
set_option maxRecDepth 100000 in
set_option maxHeartbeats 16000000 in
theorem token10_ok (s : List UInt8) (i : Nat) (hl : s.length ≤ 1000000) (hi : i < s.length) (w : World) :
  Calls Tryz.prog 60 #[st s, .int .i64 (i : Nat)] w (Give (tokR (tokE (tokS (s.drop i))) (s.drop i)) w) := by
 refine give_of_W (vs := [st s, .int .i64 (i : Nat)]) Tryz.func60 rfl Tryz.ntmps60 (Nat.le_of_ble_eq_true rfl) (St.nil w _) ?_
 simp only [argL, Nat.zero_add]
 obtain ⟨l, hls⟩ : ∃ l, s.drop i = l := ⟨_, rfl⟩
 have hll : l.length + i = s.length := by rw [← hls]; simp; omega
 have hget : ∀ n, l.getD n 0 = s.getD (i + n) 0 := fun n => by rw [← hls]; exact getD_drop _ _ _
 have at1 : ∀ (n : Nat) (x : Int) (w : World), x = (i : Int) + (n : Int) → Calls Tryz.prog 88 #[st s, .int .i64 x] w (Give (by8 (l.getD n 0)) w) := fun n x w hx => by
  rw [hget]
  exact at10_ok (i + n) (by omega) hl w
 have hm := tok_m l
 rw [hls]
 obtain ⟨X, hX⟩ : ∃ X, tokS l = X := ⟨_, rfl⟩
 rw [hX] at hm ⊢
 unfold tokS at hX
 obtain ⟨c, hc⟩ : ∃ c, l.getD 0 0 = c := ⟨_, rfl⟩
 obtain ⟨d, hd⟩ : ∃ d, l.getD 1 0 = d := ⟨_, rfl⟩
 have hsc : ∀ {x : Int}, x = i → Value.int .u8 ((s.getD x.toNat 0).toNat : Int) = by8 c := fun h => by rw [← hc, hget]; exact getB (by omega)
 have htake : ∀ n, (s.take (i + n)).drop i = l.take n := fun n => by rw [drop_take', hls]
 have htk : ∀ (n : Nat) {x y : Int}, x = i → y = (i + n : Nat) → Value.string ⟨((s.take y.toNat).drop x.toNat).toArray⟩ = st (l.take n) := fun n x y h1 h2 => by
  subst h1 h2
  rw [← htake]
  rfl
 rw [hc, hd] at hX
 by_cases h1 : leB c = true
 ·rw [if_pos h1] at hX
  obtain ⟨N, hN⟩ : ∃ N, runN woB l = N := ⟨_, rfl⟩
  have hNl := runN_le woB l
  have hst := runN_stop woB l
  have hal := runN_all woB l
  rw [hN] at hX hNl hst hal
  have hend : woB (l.getD N 0) = false := by
   rcases Nat.lt_or_ge N l.length with h | h
   ·exact hst h
   ·simp [List.getD, List.getElem?_eq_none h]
    decide
  repeat' (first | (apply gL; first | (apply Wl.ev rfl rfl; (focus (first | exact ev_move rfl | exact ev_assign rfl | (apply gIdx; first | exact (ev_index_string (strT rfl) rfl rfl (by omega)).to (show _ = by8 c from hsc (by omega)))))) | ((show Wl _ _ _ _ _ _ _ (⟨_, .call ⟨.value (.func 89), _, _⟩, _, _, _, _⟩ :: _) _ _); refine wl_call0 rfl rfl has89 rfl (fun w _ => letter10_ok _ w) ?_) | apply Wl.nil | (refine wl_alloc rfl rfl (zeroT rfl) ?_; intro b)) | (apply gQ; first | (apply Wq.ev rfl rfl; (focus (first | exact ev_move rfl | exact ev_assign rfl | (apply gIdx; first | exact (ev_index_string (strT rfl) rfl rfl (by omega)).to (show _ = by8 c from hsc (by omega))))))) | ((show W _ _ _ _ _ _ _ _ _); first | apply W.seq | (refine W.loop (X := Nat) (fun n => [(0, st s), (1, .int .i64 (i : Nat)), (4, ptr b), (7, .int .i64 ((i + n : Nat) : Int))]) (fun _ => [⟨b, true, row [.int .i64 0, .string ⟨#[]⟩, .int .i32 0, .int .i64 0, .int .i64 0] 42⟩]) (fun n => n ≤ N) (fun n => N - n) 0 (Nat.zero_le _) (by repeat (first | exact SubL.nil | refine SubL.cons rfl ?_)) (by repeat (first | exact SubH.nil | apply SubH.keep | apply SubH.drop | exact List.Sublist.refl _ | exact List.sublist_append_left _ _)) ?_) | apply W.region | apply W.block | (refine W.condB rfl ?_ ?_ <;> (intro h; try (exfalso; first | contradiction | (simp_all; done))))))
  intro n hn
  by_cases hlt : n < N
  ·have hw : woB (l.getD n 0) = true := hal _ (by
    have h2 : n < (l.take N).length := by simp; omega
    have h3 : l.getD n 0 = (l.take N)[n] := by simp [List.getD, show n < l.length by omega]
    rw [h3]
    exact List.getElem_mem _)
   obtain ⟨a, ha⟩ : ∃ a, l.getD n 0 = a := ⟨_, rfl⟩
   have at2 : ∀ (x : Int) (w : World), x = (i : Int) + (n : Int) → Calls Tryz.prog 88 #[st s, .int .i64 x] w (Give (by8 a) w) := fun x w hx => by rw [← ha]; exact at1 n x w hx
   rw [ha] at hw
   have hw2 : leB a = false → dgB a = true := fun h => by simpa [woB, h] using hw
   repeat' (first | (apply gL; first | (apply Wl.ev rfl rfl; (focus (first | exact ev_move rfl | exact ev_assign rfl | (apply gPic; first | exact ev_pickT rfl rfl | exact ev_pickF rfl rfl) | (apply gBin; first | exact ev_add64 rfl rfl (by omega))))) | ((show Wl _ _ _ _ _ _ _ (⟨_, .call ⟨.value (.func 88), _, _⟩, _, _, _, _⟩ :: _) _ _); refine wl_call0 rfl rfl has88 rfl (fun w _ => at2 _ w (by omega)) ?_) | ((show Wl _ _ _ _ _ _ _ (⟨_, .call ⟨.value (.func 89), _, _⟩, _, _, _, _⟩ :: _) _ _); refine wl_call0 rfl rfl has89 rfl (fun w _ => letter10_ok _ w) ?_) | ((show Wl _ _ _ _ _ _ _ (⟨_, .call ⟨.value (.func 90), _, _⟩, _, _, _, _⟩ :: _) _ _); refine wl_call0 rfl rfl has90 rfl (fun w _ => digit10_ok _ w) ?_) | apply Wl.nil | (refine Wl.skip rfl rfl ?_) | ((fail_if_success (apply Wl.chk rfl)); refine Wl.splitB rfl rfl ?_ ?_ <;> (intro h; try (exfalso; first | contradiction | (simp_all; done))))) | (apply gQ; first | (apply Wq.ev rfl rfl; (focus (first | exact ev_move rfl | exact ev_assign rfl | (apply gPic; first | exact ev_pickT rfl rfl | exact ev_pickF rfl rfl) | (apply gBin; first | exact ev_add64 rfl rfl (by omega)))))) | ((show W _ _ _ _ _ _ _ _ _); first | apply W.seq | (refine W.again (n + 1) hlt (by omega) (by repeat (first | exact SubL.nil | refine SubL.cons rfl ?_)) (by repeat (first | exact SubH.nil | apply SubH.keep | apply SubH.drop | exact List.Sublist.refl _ | exact List.sublist_append_left _ _))) | apply W.region | apply W.block | apply W.blk | apply W.skip | (refine W.condT rfl ?_) | (refine W.condB rfl ?_ ?_ <;> (intro h; try (exfalso; first | contradiction | (simp_all; done))))))
   all_goals (exfalso; simp_all; done)
  ·obtain rfl : n = N := by omega
   obtain ⟨a, ha⟩ : ∃ a, l.getD n 0 = a := ⟨_, rfl⟩
   have at2 : ∀ (x : Int) (w : World), x = (i : Int) + (n : Int) → Calls Tryz.prog 88 #[st s, .int .i64 x] w (Give (by8 a) w) := fun x w hx => by rw [← ha]; exact at1 n x w hx
   rw [ha] at hend
   have hw1 : leB a = false := by simp [woB] at hend; exact hend.1
   have hw2 : dgB a = false := by simp [woB] at hend; exact hend.2
   repeat' (first | (apply gL; first | (apply Wl.ev rfl rfl; (focus (first | exact ev_move rfl | exact ev_assign rfl | exact ev_pickF rfl rfl | (apply gBin; first | exact ev_gti rfl rfl | exact ev_sub64 rfl rfl (by omega)) | (apply gBui; first | (apply ev_build (bldT rfl) rfl; simp [fillP]; rfl)) | (apply gSli; first | exact (ev_slice_string (strT rfl) rfl rfl rfl (by omega)).to (show _ = st (l.take n) from htk n (by omega) (by omega)))))) | ((show Wl _ _ _ _ _ _ _ (⟨_, .call ⟨.value (.func 88), _, _⟩, _, _, _, _⟩ :: _) _ _); refine wl_call0 rfl rfl has88 rfl (fun w _ => at2 _ w (by omega)) ?_) | ((show Wl _ _ _ _ _ _ _ (⟨_, .call ⟨.value (.func 89), _, _⟩, _, _, _, _⟩ :: _) _ _); refine wl_call0 rfl rfl has89 rfl (fun w _ => letter10_ok _ w) ?_) | ((show Wl _ _ _ _ _ _ _ (⟨_, .call ⟨.value (.func 90), _, _⟩, _, _, _, _⟩ :: _) _ _); refine wl_call0 rfl rfl has90 rfl (fun w _ => digit10_ok _ w) ?_) | apply Wl.nil | (refine wl_storeWhole rfl rfl rfl (szT rfl) rfl (by repeat (first | exact Upd.here | apply Upd.there)) (by rfl) ?_) | ((fail_if_success (apply Wl.chk rfl)); refine Wl.splitB rfl rfl ?_ ?_ <;> (intro h; try (exfalso; first | contradiction | (simp_all; done))))) | (apply gQ; first | (apply Wq.ev rfl rfl; (focus (first | exact ev_move rfl | exact ev_assign rfl | exact ev_pickF rfl rfl | (apply gBin; first | exact ev_gti rfl rfl | exact ev_sub64 rfl rfl (by omega)) | (apply gBui; first | (apply ev_build (bldT rfl) rfl; simp [fillP]; rfl)) | (apply gSli; first | exact (ev_slice_string (strT rfl) rfl rfl rfl (by omega)).to (show _ = st (l.take n) from htk n (by omega) (by omega))))))) | ((show W _ _ _ _ _ _ _ _ _); first | apply W.seq | apply W.region | apply W.skip | (refine W.exit rfl ?_) | (refine W.cond rfl ?_ ?_ <;> (intro h; try (exfalso; first | contradiction | omega | exact h rfl | exact h ⟨rfl, rfl⟩ | (simp_all; done)))) | (refine W.condB rfl ?_ ?_ <;> (intro h; try (exfalso; first | contradiction | (simp_all; done)))) | (refine W.retct rfl rfl (agT rfl) (by repeat (first | exact List.Mem.head _ | apply List.Mem.tail)) (szT rfl) rfl ?_; intro w hs)))
   all_goals first
    | exact ret_eq hs (by rw [← hX, if_pos (by omega)]; rfl)
    | exact ret_eq hs (by rw [← hX, if_neg (by omega)]; rfl)
    | (exfalso; simp_all; done)
 ·rw [if_neg h1] at hX
  have h1' : leB c = false := by simpa using h1
  by_cases h2 : dgB c = true ∨ (c = 46 ∧ dgB d = true)
  ·rw [if_pos h2] at hX
   have h2n : ¬dgB c = true → (c.toNat : Int) = 46 ∧ dgB d = true := fun h => ⟨by rw [(h2.resolve_left h).1]; rfl, (h2.resolve_left h).2⟩
   have ce : ∀ (x : Int) (w : World), x = (i : Int) + 1 → Calls Tryz.prog 88 #[st s, .int .i64 x] w (Give (by8 d) w) := fun x w hx => by rw [← hd]; exact at1 1 x w hx
   obtain ⟨N, hN⟩ : ∃ N, numN l = N := ⟨_, rfl⟩
   have hNl := numN_le l
   unfold numS at hX
   rw [hN] at hX hNl
   obtain ⟨D, hD⟩ : ∃ D, runN dgB l = D := ⟨_, rfl⟩
   obtain ⟨T, hT⟩ : ∃ T, l.take N = T := ⟨_, rfl⟩
   have hTl : T.length = N := by rw [← hT]; simp; omega
   rw [hT, hc] at hX
   obtain ⟨a, ha⟩ : ∃ a, l.getD N 0 = a := ⟨_, rfl⟩
   rw [ha] at hX
   have fin : dgB a = false ∧ (∀ n, n < D → dgB (l.getD n 0) = true) ∧ (dgB (l.getD D 0) = false) ∧ (numP l → N > D ∧ l.getD D 0 = 46 ∧ ∀ n, D < n → n < N → dgB (l.getD n 0) = true) ∧ (¬numP l → N = D ∧ l.getD D 0 ≠ 46) := by
    have hst := runN_stop dgB l
    have hal := runN_all dgB l
    have hDl := runN_le dgB l
    have hnum : ∀ n, n < D → dgB (l.getD n 0) = true := fun n hn => hal _ (by
     rw [hD] at hDl ⊢
     have h2 : n < (l.take D).length := by simp; omega
     have h3 : l.getD n 0 = (l.take D)[n] := by simp [List.getD, show n < l.length by omega]
     rw [h3]
     exact List.getElem_mem _)
    have h46 : dgB 46 = false := by decide
    have h0 : dgB 0 = false := by decide
    have hDs : dgB (l.getD D 0) = false := by
     rw [hD] at hst
     rcases Nat.lt_or_ge D l.length with h | h
     ·exact hst h
     ·simp [List.getD, List.getElem?_eq_none h, h0]
    unfold numN at hN
    unfold numP
    rw [hD] at hN ⊢
    by_cases hp : l.getD D 0 = 46
    ·rw [if_pos hp] at hN
     have hst2 := runN_stop dgB (l.drop (D + 1))
     have hal2 := runN_all dgB (l.drop (D + 1))
     have hDl2 := runN_le dgB (l.drop (D + 1))
     obtain ⟨E, hE⟩ : ∃ E, runN dgB (l.drop (D + 1)) = E := ⟨_, rfl⟩
     rw [hE] at hN hst2 hal2 hDl2
     rw [List.length_drop] at hst2 hDl2
     refine ⟨?_, hnum, hDs, fun _ => ⟨by omega, hp, fun n h1 h2 => ?_⟩, fun h => absurd hp h⟩
     ·rw [← ha]
      rcases Nat.lt_or_ge N l.length with h | h
      ·have := hst2 (by omega)
       rwa [getD_drop, hN] at this
      ·simp [List.getD, List.getElem?_eq_none h, h0]
     ·have h3 : n - (D + 1) < ((l.drop (D + 1)).take E).length := by simp; omega
      have h4 : l.getD n 0 = ((l.drop (D + 1)).take E)[n - (D + 1)] := by
       rw [List.getElem_take, List.getElem_drop]
       simp only [show D + 1 + (n - (D + 1)) = n by omega]
       simp [List.getD, show n < l.length by omega]
      rw [h4]
      exact hal2 _ (List.getElem_mem _)
    ·rw [if_neg hp] at hN
     subst hN
     exact ⟨by rw [← ha]; exact hDs, hnum, hDs, fun h => absurd h hp, fun _ => ⟨rfl, hp⟩⟩
   obtain ⟨f1, f2, f3, f4, f5⟩ := fin
   have d46 : dgB 46 = false := by decide
   repeat' (first | (apply gL; first | (apply Wl.ev rfl rfl; (focus (first | exact ev_move rfl | exact ev_assign rfl | (apply gPic; first | exact ev_pickT rfl rfl | exact ev_pickF rfl rfl) | (apply gBin; first | exact ev_eqi rfl rfl | exact ev_add64 rfl rfl (by omega)) | (apply gIdx; first | exact (ev_index_string (strT rfl) rfl rfl (by omega)).to (show _ = by8 c from hsc (by omega)))))) | (refine wl_alloc rfl rfl (zeroT rfl) ?_; intro tb) | ((show Wl _ _ _ _ _ _ _ (⟨_, .call ⟨.value (.func 88), _, _⟩, _, _, _, _⟩ :: _) _ _); refine wl_call0 rfl rfl has88 rfl (fun w _ => ce _ w (by omega)) ?_) | ((show Wl _ _ _ _ _ _ _ (⟨_, .call ⟨.value (.func 89), _, _⟩, _, _, _, _⟩ :: _) _ _); refine wl_call0 rfl rfl has89 rfl (fun w _ => letter10_ok _ w) ?_) | ((show Wl _ _ _ _ _ _ _ (⟨_, .call ⟨.value (.func 90), _, _⟩, _, _, _, _⟩ :: _) _ _); refine wl_call0 rfl rfl has90 rfl (fun w _ => digit10_ok _ w) ?_) | apply Wl.nil | (refine Wl.skip rfl rfl ?_) | ((fail_if_success (apply Wl.chk rfl)); refine Wl.split rfl rfl ?_ ?_ <;> (intro h; try (exfalso; first | contradiction | omega | exact h rfl | exact h ⟨rfl, rfl⟩ | (simp_all; done)))) | ((fail_if_success (apply Wl.chk rfl)); refine Wl.splitB rfl rfl ?_ ?_ <;> (intro h; try (exfalso; first | contradiction | (simp_all; done))))) | (apply gQ; first | (apply Wq.ev rfl rfl; (focus (first | exact ev_move rfl | exact ev_assign rfl | (apply gPic; first | exact ev_pickT rfl rfl | exact ev_pickF rfl rfl) | (apply gBin; first | exact ev_eqi rfl rfl | exact ev_add64 rfl rfl (by omega)) | (apply gIdx; first | exact (ev_index_string (strT rfl) rfl rfl (by omega)).to (show _ = by8 c from hsc (by omega))))))) | ((show W _ _ _ _ _ _ _ _ _); first | apply W.seq | (refine W.loop (X := Nat × Nat) (fun x => [(0, st s), (1, .int .i64 (i : Nat)), (4, ptr tb), (6, by8 c), (7, .int .i64 ((i + x.1 : Nat) : Int)), (8, .int .i64 (x.2 : Nat))]) (fun _ => [⟨tb, true, row [.int .i64 0, .string ⟨#[]⟩, .int .i32 0, .int .i64 0, .int .i64 0] 42⟩]) (fun x => (x.2 = 0 ∧ x.1 ≤ D ∧ x.1 ≤ N) ∨ (x.2 = 1 ∧ numP l ∧ D < x.1 ∧ x.1 ≤ N)) (fun x => N - x.1) (0, 0) (.inl ⟨rfl, Nat.zero_le _, Nat.zero_le _⟩) (by repeat (first | exact SubL.nil | refine SubL.cons rfl ?_)) (by repeat (first | exact SubH.nil | apply SubH.keep | apply SubH.drop | exact List.Sublist.refl _ | exact List.sublist_append_left _ _)) ?_) | apply W.region | apply W.block | (refine W.condT rfl ?_) | (refine W.condB rfl ?_ ?_ <;> (intro h; try (exfalso; first | contradiction | (simp_all; done))))))
   all_goals
    rintro ⟨n, p⟩ hφ
    dsimp only at hφ ⊢
    obtain ⟨a0, ha0⟩ : ∃ a0, l.getD n 0 = a0 := ⟨_, rfl⟩
    have at2 : ∀ (x : Int) (w : World), x = (i : Int) + (n : Int) → Calls Tryz.prog 88 #[st s, .int .i64 x] w (Give (by8 a0) w) := fun x w hx => by rw [← ha0]; exact at1 n x w hx
    have ix0 : ∀ {x : Int}, x = (i : Int) + (n : Int) → Value.int .u8 ((s.getD x.toNat 0).toNat : Int) = by8 a0 := fun h => by rw [← ha0, hget]; exact getB (by omega)
    by_cases hgo : n < N ∧ dgB a0 = true
    ·obtain ⟨g1, g2⟩ := hgo
     have g3 : ¬(a0.toNat : Int) = 46 := by_ne (k := 46) fun e => by rw [e, d46] at g2; cases g2
     have g4 : (p = 0 ∧ n + 1 ≤ D ∧ n + 1 ≤ N) ∨ (p = 1 ∧ numP l ∧ D < n + 1 ∧ n + 1 ≤ N) := by
      rcases hφ with ⟨q1, q2, q3⟩ | ⟨q1, q2, q3, q4⟩
      ·have : n ≠ D := fun e => by rw [← ha0, e, f3] at g2; cases g2
       exact .inl ⟨q1, by omega, by omega⟩
      ·exact .inr ⟨q1, q2, by omega, by omega⟩
     repeat' (first | (apply gL; first | (apply Wl.ev rfl rfl; (focus (first | exact ev_move rfl | exact ev_assign rfl | exact ev_pickT rfl rfl | (apply gBin; first | exact ev_eqi rfl rfl | exact ev_add64 rfl rfl (by omega)) | (apply gIdx; first | exact (ev_index_string (strT rfl) rfl rfl (by omega)).to (show _ = by8 a0 from ix0 (by omega)))))) | ((show Wl _ _ _ _ _ _ _ (⟨_, .call ⟨.value (.func 88), _, _⟩, _, _, _, _⟩ :: _) _ _); refine wl_call0 rfl rfl has88 rfl (fun w _ => at2 _ w (by omega)) ?_) | ((show Wl _ _ _ _ _ _ _ (⟨_, .call ⟨.value (.func 90), _, _⟩, _, _, _, _⟩ :: _) _ _); refine wl_call0 rfl rfl has90 rfl (fun w _ => digit10_ok _ w) ?_) | apply Wl.nil | (refine Wl.skip rfl rfl ?_) | ((fail_if_success (apply Wl.chk rfl)); refine Wl.splitB rfl rfl ?_ ?_ <;> (intro h; try (exfalso; first | contradiction | (simp_all; done))))) | (apply gQ; first | (apply Wq.ev rfl rfl; (focus (first | exact ev_move rfl | exact ev_assign rfl | exact ev_pickT rfl rfl | (apply gBin; first | exact ev_eqi rfl rfl | exact ev_add64 rfl rfl (by omega)) | (apply gIdx; first | exact (ev_index_string (strT rfl) rfl rfl (by omega)).to (show _ = by8 a0 from ix0 (by omega))))))) | ((show W _ _ _ _ _ _ _ _ _); first | apply W.seq | (refine W.again (n + 1, p) g4 (by dsimp only; omega) (by repeat (first | exact SubL.nil | refine SubL.cons rfl ?_)) (by repeat (first | exact SubH.nil | apply SubH.keep | apply SubH.drop | exact List.Sublist.refl _ | exact List.sublist_append_left _ _))) | apply W.region | apply W.block | apply W.blk | apply W.skip | (refine W.condT rfl ?_) | (refine W.cond rfl ?_ ?_ <;> (intro h; try (exfalso; first | contradiction | omega | exact h rfl | exact h ⟨rfl, rfl⟩ | (simp_all; done))))))
     all_goals (exfalso; simp_all; done)
    ·by_cases hpt : p = 0 ∧ numP l
     ·obtain ⟨rfl, hP⟩ := hpt
      obtain ⟨q1, q2, q3⟩ := f4 hP
      have hn : n = D := by
       rcases hφ with ⟨_, w2, w3⟩ | ⟨w1, _⟩
       ·rcases Nat.lt_or_ge n D with h | h
        ·exact absurd ⟨by omega, by rw [← ha0]; exact f2 n h⟩ hgo
        ·omega
       ·cases w1
      subst hn
      have g1 : a0 = 46 := by rw [← ha0]; exact q2
      have g2 : dgB a0 = false := by rw [g1]; exact d46
      have g3 : (a0.toNat : Int) = 46 := by rw [g1]; rfl
      have g4 : (1 = 0 ∧ n + 1 ≤ n ∧ n + 1 ≤ N) ∨ (1 = 1 ∧ numP l ∧ n < n + 1 ∧ n + 1 ≤ N) := .inr ⟨rfl, hP, by omega, by omega⟩
      repeat' (first | (apply gL; first | (apply Wl.ev rfl rfl; (focus (first | exact ev_move rfl | exact ev_assign rfl | (apply gPic; first | exact ev_pickT rfl rfl | exact ev_pickF rfl rfl) | (apply gBin; first | exact ev_eqi rfl rfl | exact ev_add64 rfl rfl (by omega)) | (apply gIdx; first | exact (ev_index_string (strT rfl) rfl rfl (by omega)).to (show _ = by8 a0 from ix0 (by omega)))))) | ((show Wl _ _ _ _ _ _ _ (⟨_, .call ⟨.value (.func 88), _, _⟩, _, _, _, _⟩ :: _) _ _); refine wl_call0 rfl rfl has88 rfl (fun w _ => at2 _ w (by omega)) ?_) | ((show Wl _ _ _ _ _ _ _ (⟨_, .call ⟨.value (.func 90), _, _⟩, _, _, _, _⟩ :: _) _ _); refine wl_call0 rfl rfl has90 rfl (fun w _ => digit10_ok _ w) ?_) | apply Wl.nil | ((fail_if_success (apply Wl.chk rfl)); refine Wl.split rfl rfl ?_ ?_ <;> (intro h; try (exfalso; first | contradiction | omega | exact h rfl | exact h ⟨rfl, rfl⟩ | (simp_all; done)))) | ((fail_if_success (apply Wl.chk rfl)); refine Wl.splitB rfl rfl ?_ ?_ <;> (intro h; try (exfalso; first | contradiction | (simp_all; done))))) | (apply gQ; first | (apply Wq.ev rfl rfl; (focus (first | exact ev_move rfl | exact ev_assign rfl | (apply gPic; first | exact ev_pickT rfl rfl | exact ev_pickF rfl rfl) | (apply gBin; first | exact ev_eqi rfl rfl | exact ev_add64 rfl rfl (by omega)) | (apply gIdx; first | exact (ev_index_string (strT rfl) rfl rfl (by omega)).to (show _ = by8 a0 from ix0 (by omega))))))) | ((show W _ _ _ _ _ _ _ _ _); first | apply W.seq | (refine W.again (n + 1, 1) g4 (by dsimp only; omega) (by repeat (first | exact SubL.nil | refine SubL.cons rfl ?_)) (by repeat (first | exact SubH.nil | apply SubH.keep | apply SubH.drop | exact List.Sublist.refl _ | exact List.sublist_append_left _ _))) | apply W.region | apply W.block | apply W.blk | apply W.skip | (refine W.condT rfl ?_) | (refine W.cond rfl ?_ ?_ <;> (intro h; try (exfalso; first | contradiction | omega | exact h rfl | exact h ⟨rfl, rfl⟩ | (simp_all; done))))))
      all_goals (exfalso; simp_all; done)
     ·have hn : n = N ∧ (numP l → p = 1) ∧ (¬numP l → p = 0) := by
       rcases hφ with ⟨w1, w2, w3⟩ | ⟨w1, w2, w3, w4⟩
       ·have hnP : ¬numP l := fun h => hpt ⟨w1, h⟩
        obtain ⟨e1, _⟩ := f5 hnP
        refine ⟨?_, fun h => absurd h hnP, fun _ => w1⟩
        rcases Nat.lt_or_ge n D with h | h
        ·exact absurd ⟨by omega, by rw [← ha0]; exact f2 n h⟩ hgo
        ·omega
       ·refine ⟨?_, fun _ => w1, fun h => absurd w2 h⟩
        rcases Nat.lt_or_ge n N with h | h
        ·exact absurd ⟨h, by rw [← ha0]; exact (f4 w2).2.2 n w3 h⟩ hgo
        ·omega
      obtain ⟨rfl, hp1, hp0⟩ := hn
      have haa : a0 = a := ha0.symm.trans ha
      subst haa
      have g46 : (a0.toNat : Int) = 46 → p = 1 := fun e => by
       by_cases hP : numP l
       ·exact hp1 hP
       ·exact absurd (by rw [← (f5 hP).1, ha0]; exact UInt8.toNat_inj.1 (by show _ = 46; omega)) (f5 hP).2
      by_cases hc2 : leB a0 = true ∨ a0 = 46
      ·rw [if_pos hc2] at hX
       have hc3 : ¬leB a0 = true → (a0.toNat : Int) = 46 := fun h => by rw [hc2.resolve_left h]; rfl
       repeat' (first | (apply gL; first | (apply Wl.ev rfl rfl; (focus (first | exact ev_move rfl | exact ev_assign rfl | (apply gPic; first | exact ev_pickT rfl rfl | exact ev_pickF rfl rfl) | exact ev_eqi rfl rfl | (apply gBui; first | (apply ev_build (bldT rfl) rfl; simp [fillP]; rfl))))) | ((show Wl _ _ _ _ _ _ _ (⟨_, .call ⟨.value (.func 88), _, _⟩, _, _, _, _⟩ :: _) _ _); refine wl_call0 rfl rfl has88 rfl (fun w _ => at2 _ w (by omega)) ?_) | ((show Wl _ _ _ _ _ _ _ (⟨_, .call ⟨.value (.func 89), _, _⟩, _, _, _, _⟩ :: _) _ _); refine wl_call0 rfl rfl has89 rfl (fun w _ => letter10_ok _ w) ?_) | ((show Wl _ _ _ _ _ _ _ (⟨_, .call ⟨.value (.func 90), _, _⟩, _, _, _, _⟩ :: _) _ _); refine wl_call0 rfl rfl has90 rfl (fun w _ => digit10_ok _ w) ?_) | apply Wl.nil | (refine Wl.skip rfl rfl ?_) | (refine wl_storeWhole rfl rfl rfl (szT rfl) rfl (by repeat (first | exact Upd.here | apply Upd.there)) (by rfl) ?_) | ((fail_if_success (apply Wl.chk rfl)); refine Wl.split rfl rfl ?_ ?_ <;> (intro h; try (exfalso; first | contradiction | omega | exact h rfl | exact h ⟨rfl, rfl⟩ | (simp_all; done)))) | ((fail_if_success (apply Wl.chk rfl)); refine Wl.splitB rfl rfl ?_ ?_ <;> (intro h; try (exfalso; first | contradiction | (simp_all; done))))) | (apply gQ; first | (apply Wq.ev rfl rfl; (focus (first | exact ev_move rfl | exact ev_assign rfl | (apply gPic; first | exact ev_pickT rfl rfl | exact ev_pickF rfl rfl) | exact ev_eqi rfl rfl | (apply gBui; first | (apply ev_build (bldT rfl) rfl; simp [fillP]; rfl)))))) | ((show W _ _ _ _ _ _ _ _ _); first | apply W.seq | apply W.region | (refine W.exit rfl ?_) | (refine W.condT rfl ?_) | (refine W.condF rfl ?_) | (refine W.cond rfl ?_ ?_ <;> (intro h; try (exfalso; first | contradiction | omega | exact h rfl | exact h ⟨rfl, rfl⟩ | (simp_all; done)))) | (refine W.retct rfl rfl (agT rfl) (by repeat (first | exact List.Mem.head _ | apply List.Mem.tail)) (szT rfl) rfl ?_; intro w hs)))
       all_goals first
        | exact ret_eq hs (by rw [← hX]; rfl)
        | (exfalso; omega)
        | (exfalso; have := hc3 (by simp_all); simp_all; done)
        | (exfalso; simp_all; done)
        | (exfalso; have := hc3 (by simp_all); omega)
      ·rw [if_neg hc2] at hX
       have hc3 : leB a0 = false := by simpa using fun h => hc2 (.inl h)
       have hc4 : ¬(a0.toNat : Int) = 46 := by_ne (k := 46) fun h => hc2 (.inr h)
       by_cases hP : numP l
       ·obtain rfl := hp1 hP
        rw [if_neg (fun h => h.1 hP), if_pos hP] at hX
        have hpar : ∀ w, Calls Tryz.prog 91 #[st T] w (Give (res2i (parseS T)) w) := fun w => by rw [parse_same]; exact parse02_ok T (by omega) w
        obtain ⟨e, x⟩ : ∃ e, e = parseS T := ⟨_, rfl⟩
        rw [← x] at hpar hX
        clear x
        by_cases he : e.2 = 0
        ·have hXe : tokE X = ⟨0, 3, n, e.1⟩ := by
          rw [← hX]
          unfold tokE
          rw [if_pos he, he]
         repeat' (first | (apply gL; first | (apply Wl.ev rfl rfl; (focus (first | exact ev_move rfl | exact ev_assign rfl | exact ev_pickF rfl rfl | (apply gBin; first | exact ev_eqi rfl rfl | exact ev_nei rfl rfl | exact ev_gti rfl rfl) | exact ev_extract rfl rfl | (apply gBui; first | (apply ev_build (bldT rfl) rfl; simp [fillP]; rfl)) | (apply gSli; first | exact (ev_slice_string (strT rfl) rfl rfl rfl (by omega)).to (show _ = st T from by rw [← hT]; exact htk n (by omega) (by omega)))))) | ((show Wl _ _ _ _ _ _ _ (⟨_, .call ⟨.value (.func 88), _, _⟩, _, _, _, _⟩ :: _) _ _); refine wl_call0 rfl rfl has88 rfl (fun w _ => at2 _ w (by omega)) ?_) | ((show Wl _ _ _ _ _ _ _ (⟨_, .call ⟨.value (.func 89), _, _⟩, _, _, _, _⟩ :: _) _ _); refine wl_call0 rfl rfl has89 rfl (fun w _ => letter10_ok _ w) ?_) | ((show Wl _ _ _ _ _ _ _ (⟨_, .call ⟨.value (.func 90), _, _⟩, _, _, _, _⟩ :: _) _ _); refine wl_call0 rfl rfl has90 rfl (fun w _ => digit10_ok _ w) ?_) | ((show Wl _ _ _ _ _ _ _ (⟨_, .call ⟨.value (.func 91), _, _⟩, _, _, _, _⟩ :: _) _ _); refine wl_call0 rfl rfl has91 rfl (fun w _ => hpar w) ?_) | apply Wl.nil | (refine Wl.skip rfl rfl ?_) | (refine wl_storeWhole rfl rfl rfl (szT rfl) rfl (by repeat (first | exact Upd.here | apply Upd.there)) (by rfl) ?_) | ((fail_if_success (apply Wl.chk rfl)); refine Wl.split rfl rfl ?_ ?_ <;> (intro h; try (exfalso; first | contradiction | omega | exact h rfl | exact h ⟨rfl, rfl⟩ | (simp_all; done)))) | ((fail_if_success (apply Wl.chk rfl)); refine Wl.splitB rfl rfl ?_ ?_ <;> (intro h; try (exfalso; first | contradiction | (simp_all; done))))) | (apply gQ; first | (apply Wq.ev rfl rfl; (focus (first | exact ev_move rfl | exact ev_assign rfl | exact ev_pickF rfl rfl | (apply gBin; first | exact ev_eqi rfl rfl | exact ev_nei rfl rfl | exact ev_gti rfl rfl) | exact ev_extract rfl rfl | (apply gBui; first | (apply ev_build (bldT rfl) rfl; simp [fillP]; rfl)) | (apply gSli; first | exact (ev_slice_string (strT rfl) rfl rfl rfl (by omega)).to (show _ = st T from by rw [← hT]; exact htk n (by omega) (by omega))))))) | ((show W _ _ _ _ _ _ _ _ _); first | apply W.seq | apply W.region | apply W.skip | (refine W.exit rfl ?_) | (refine W.condT rfl ?_) | (refine W.condF rfl ?_) | (refine W.cond rfl ?_ ?_ <;> (intro h; try (exfalso; first | contradiction | omega | exact h rfl | exact h ⟨rfl, rfl⟩ | (simp_all; done)))) | (refine W.retct rfl rfl (agT rfl) (by repeat (first | exact List.Mem.head _ | apply List.Mem.tail)) (szT rfl) rfl ?_; intro w hs)))
         all_goals first
          | exact ret_eq hs (by rw [hXe, ← hT])
          | (exfalso; omega)
          | (exfalso; simp_all; done)
        ·have hXe : tokE X = ⟨e.2, 0, 0, 0⟩ := by
          rw [← hX]
          unfold tokE
          rw [if_neg he]
         repeat' (first | (apply gL; first | (apply Wl.ev rfl rfl; (focus (first | exact ev_move rfl | exact ev_assign rfl | exact ev_pickF rfl rfl | (apply gBin; first | exact ev_eqi rfl rfl | exact ev_nei rfl rfl | exact ev_gti rfl rfl) | exact ev_extract rfl rfl | (apply gBui; first | (apply ev_build (bldT rfl) rfl; simp [fillP]; rfl)) | (apply gSli; first | exact (ev_slice_string (strT rfl) rfl rfl rfl (by omega)).to (show _ = st T from by rw [← hT]; exact htk n (by omega) (by omega)))))) | ((show Wl _ _ _ _ _ _ _ (⟨_, .call ⟨.value (.func 88), _, _⟩, _, _, _, _⟩ :: _) _ _); refine wl_call0 rfl rfl has88 rfl (fun w _ => at2 _ w (by omega)) ?_) | ((show Wl _ _ _ _ _ _ _ (⟨_, .call ⟨.value (.func 89), _, _⟩, _, _, _, _⟩ :: _) _ _); refine wl_call0 rfl rfl has89 rfl (fun w _ => letter10_ok _ w) ?_) | ((show Wl _ _ _ _ _ _ _ (⟨_, .call ⟨.value (.func 90), _, _⟩, _, _, _, _⟩ :: _) _ _); refine wl_call0 rfl rfl has90 rfl (fun w _ => digit10_ok _ w) ?_) | ((show Wl _ _ _ _ _ _ _ (⟨_, .call ⟨.value (.func 91), _, _⟩, _, _, _, _⟩ :: _) _ _); refine wl_call0 rfl rfl has91 rfl (fun w _ => hpar w) ?_) | apply Wl.nil | (refine Wl.skip rfl rfl ?_) | (refine wl_storeWhole rfl rfl rfl (szT rfl) rfl (by repeat (first | exact Upd.here | apply Upd.there)) (by rfl) ?_) | ((fail_if_success (apply Wl.chk rfl)); refine Wl.split rfl rfl ?_ ?_ <;> (intro h; try (exfalso; first | contradiction | omega | exact h rfl | exact h ⟨rfl, rfl⟩ | (simp_all; done)))) | ((fail_if_success (apply Wl.chk rfl)); refine Wl.splitB rfl rfl ?_ ?_ <;> (intro h; try (exfalso; first | contradiction | (simp_all; done))))) | (apply gQ; first | (apply Wq.ev rfl rfl; (focus (first | exact ev_move rfl | exact ev_assign rfl | exact ev_pickF rfl rfl | (apply gBin; first | exact ev_eqi rfl rfl | exact ev_nei rfl rfl | exact ev_gti rfl rfl) | exact ev_extract rfl rfl | (apply gBui; first | (apply ev_build (bldT rfl) rfl; simp [fillP]; rfl)) | (apply gSli; first | exact (ev_slice_string (strT rfl) rfl rfl rfl (by omega)).to (show _ = st T from by rw [← hT]; exact htk n (by omega) (by omega))))))) | ((show W _ _ _ _ _ _ _ _ _); first | apply W.seq | apply W.region | apply W.skip | (refine W.exit rfl ?_) | (refine W.condT rfl ?_) | (refine W.condF rfl ?_) | (refine W.cond rfl ?_ ?_ <;> (intro h; try (exfalso; first | contradiction | omega | exact h rfl | exact h ⟨rfl, rfl⟩ | (simp_all; done)))) | (refine W.retct rfl rfl (agT rfl) (by repeat (first | exact List.Mem.head _ | apply List.Mem.tail)) (szT rfl) rfl ?_; intro w hs)))
         all_goals first
          | exact ret_eq hs (by rw [hXe]; rfl)
          | (exfalso; omega)
          | (exfalso; simp_all; done)
       ·obtain rfl := hp0 hP
        by_cases hz : 1 < n ∧ c = 48
        ·rw [if_pos ⟨hP, hz⟩] at hX
         have hz1 := hz.1
         have hz2 : (c.toNat : Int) = 48 := by rw [hz.2]; rfl
         repeat' (first | (apply gL; first | (apply Wl.ev rfl rfl; (focus (first | exact ev_move rfl | exact ev_assign rfl | (apply gPic; first | exact ev_pickT rfl rfl | exact ev_pickF rfl rfl) | (apply gBin; first | exact ev_eqi rfl rfl | exact ev_gti rfl rfl | exact ev_sub64 rfl rfl (by omega)) | (apply gBui; first | (apply ev_build (bldT rfl) rfl; simp [fillP]; rfl))))) | ((show Wl _ _ _ _ _ _ _ (⟨_, .call ⟨.value (.func 88), _, _⟩, _, _, _, _⟩ :: _) _ _); refine wl_call0 rfl rfl has88 rfl (fun w _ => at2 _ w (by omega)) ?_) | ((show Wl _ _ _ _ _ _ _ (⟨_, .call ⟨.value (.func 89), _, _⟩, _, _, _, _⟩ :: _) _ _); refine wl_call0 rfl rfl has89 rfl (fun w _ => letter10_ok _ w) ?_) | ((show Wl _ _ _ _ _ _ _ (⟨_, .call ⟨.value (.func 90), _, _⟩, _, _, _, _⟩ :: _) _ _); refine wl_call0 rfl rfl has90 rfl (fun w _ => digit10_ok _ w) ?_) | apply Wl.nil | (refine Wl.skip rfl rfl ?_) | (refine wl_storeWhole rfl rfl rfl (szT rfl) rfl (by repeat (first | exact Upd.here | apply Upd.there)) (by rfl) ?_) | ((fail_if_success (apply Wl.chk rfl)); refine Wl.split rfl rfl ?_ ?_ <;> (intro h; try (exfalso; first | contradiction | omega | exact h rfl | exact h ⟨rfl, rfl⟩ | (simp_all; done)))) | ((fail_if_success (apply Wl.chk rfl)); refine Wl.splitB rfl rfl ?_ ?_ <;> (intro h; try (exfalso; first | contradiction | (simp_all; done))))) | (apply gQ; first | (apply Wq.ev rfl rfl; (focus (first | exact ev_move rfl | exact ev_assign rfl | (apply gPic; first | exact ev_pickT rfl rfl | exact ev_pickF rfl rfl) | (apply gBin; first | exact ev_eqi rfl rfl | exact ev_gti rfl rfl | exact ev_sub64 rfl rfl (by omega)) | (apply gBui; first | (apply ev_build (bldT rfl) rfl; simp [fillP]; rfl)))))) | ((show W _ _ _ _ _ _ _ _ _); first | apply W.seq | apply W.region | (refine W.exit rfl ?_) | (refine W.condF rfl ?_) | (refine W.cond rfl ?_ ?_ <;> (intro h; try (exfalso; first | contradiction | omega | exact h rfl | exact h ⟨rfl, rfl⟩ | (simp_all; done)))) | (refine W.retct rfl rfl (agT rfl) (by repeat (first | exact List.Mem.head _ | apply List.Mem.tail)) (szT rfl) rfl ?_; intro w hs)))
         all_goals first
          | exact ret_eq hs (by rw [← hX]; rfl)
          | (exfalso; omega)
          | (exfalso; simp_all; done)
        ·rw [if_neg (fun h => hz h.2), if_neg hP] at hX
         have hz2 : ¬((n : Int) > 1 ∧ (c.toNat : Int) = 48) := fun h => hz ⟨by omega, UInt8.toNat_inj.1 (by have := h.2; show _ = 48; omega)⟩
         have hdig : ∀ j, j < T.length → 48 ≤ (T.getD j 0).toNat ∧ (T.getD j 0).toNat ≤ 57 := fun j hj => by
          have e1 : T.getD j 0 = l.getD j 0 := by
           rw [← hT]
           simp only [List.getD]
           rw [List.getElem?_take, if_pos (by omega)]
          rw [e1]
          exact dgB_iff.1 (f2 j (by have := (f5 hP).1; omega))
         have hcg : ∀ (z j off : Nat), j < T.length → off = j → (bytV T ++ List.replicate z (Value.int .u8 0)).toArray[off]? = some (by8 (T.getD j 0)) := fun z j off h e => by
          subst e
          have := cells_get (z := z) h
          rwa [Nat.zero_add] at this
         repeat' (first | (apply gL; first | (apply Wl.ev rfl rfl; (focus (first | exact ev_move rfl | exact ev_assign rfl | (apply gPic; first | exact ev_pickT rfl rfl | exact ev_pickF rfl rfl) | (apply gBin; first | exact ev_eqi rfl rfl | exact ev_gti rfl rfl | exact ev_sub64 rfl rfl (by omega)) | (apply gCal; first | exact ev_len_slice (slT rfl) rfl) | (apply gSli; first | exact (ev_slice_string (strT rfl) rfl rfl rfl (by omega)).to (show _ = st T from by rw [← hT]; exact htk n (by omega) (by omega)))))) | ((show Wl _ _ _ _ _ _ _ (⟨_, .call ⟨.value (.func 88), _, _⟩, _, _, _, _⟩ :: _) _ _); refine wl_call0 rfl rfl has88 rfl (fun w _ => at2 _ w (by omega)) ?_) | ((show Wl _ _ _ _ _ _ _ (⟨_, .call ⟨.value (.func 89), _, _⟩, _, _, _, _⟩ :: _) _ _); refine wl_call0 rfl rfl has89 rfl (fun w _ => letter10_ok _ w) ?_) | ((show Wl _ _ _ _ _ _ _ (⟨_, .call ⟨.value (.func 90), _, _⟩, _, _, _, _⟩ :: _) _ _); refine wl_call0 rfl rfl has90 rfl (fun w _ => digit10_ok _ w) ?_) | apply Wl.nil | (refine Wl.skip rfl rfl ?_) | (refine wl_strBytes rfl rfl (strT rfl) (slT rfl) (intT rfl) rfl ?_; intro b cap hcap) | ((fail_if_success (apply Wl.chk rfl)); refine Wl.split rfl rfl ?_ ?_ <;> (intro h; try (exfalso; first | contradiction | omega | exact h rfl | exact h ⟨rfl, rfl⟩ | (simp_all; done)))) | ((fail_if_success (apply Wl.chk rfl)); refine Wl.splitB rfl rfl ?_ ?_ <;> (intro h; try (exfalso; first | contradiction | (simp_all; done))))) | (apply gQ; first | (apply Wq.ev rfl rfl; (focus (first | exact ev_move rfl | exact ev_assign rfl | (apply gPic; first | exact ev_pickT rfl rfl | exact ev_pickF rfl rfl) | (apply gBin; first | exact ev_eqi rfl rfl | exact ev_gti rfl rfl | exact ev_sub64 rfl rfl (by omega)) | (apply gCal; first | exact ev_len_slice (slT rfl) rfl) | (apply gSli; first | exact (ev_slice_string (strT rfl) rfl rfl rfl (by omega)).to (show _ = st T from by rw [← hT]; exact htk n (by omega) (by omega))))))) | ((show W _ _ _ _ _ _ _ _ _); first | apply W.seq | apply W.region | apply W.block | apply W.skip | (refine W.exit rfl ?_) | (refine W.condF rfl ?_) | (refine W.cond rfl ?_ ?_ <;> (intro h; try (exfalso; first | contradiction | omega | exact h rfl | exact h ⟨rfl, rfl⟩ | (simp_all; done))))))
         all_goals first
          | (exfalso; omega)
          | skip
         all_goals
          refine W.loop (X := Nat) (fun j => [(0, st s), (1, .int .i64 (i : Nat)), (4, ptr tb), (7, .int .i64 ((i + n : Nat) : Int)), (11, .int .i64 (wholeS 99999 (T.take j) : Nat)), (130, .slice (some ⟨b, 0, none⟩) T.length cap), (131, .int .i64 (T.length : Nat)), (132, .int .i64 (j : Nat))])
           (fun _ => [⟨b, true, .cells (bytV T ++ List.replicate (cap - T.length) (Value.int .u8 0)).toArray 5 (cap, cap + 1)⟩, ⟨tb, true, row [.int .i64 0, .string ⟨#[]⟩, .int .i32 0, .int .i64 0, .int .i64 0] 42⟩]) (fun j => j ≤ T.length) (fun j => T.length - j) 0 (Nat.zero_le _) (by repeat (first | exact SubL.nil | refine SubL.cons rfl ?_)) (by repeat (first | exact SubH.nil | apply SubH.keep | apply SubH.drop | exact List.Sublist.refl _ | exact List.sublist_append_left _ _)) ?_
          intro j hj
          by_cases hlt : j < T.length
          ·have hd := hdig j hlt
           have hw := wholeS_le 99999 (T.take j)
           have hcg := hcg (cap - T.length) j
           obtain ⟨V, hV⟩ : ∃ V, wholeS 99999 (T.take j) = V := ⟨_, rfl⟩
           have hV2 : wholeS 99999 (T.take (j + 1)) = min (V * 10 + ((T.getD j 0).toNat - 48)) 99999 := by rw [take_snoc' hlt, wholeS_snoc, hV]
           rw [hV] at hw ⊢
           repeat' (first | (apply gL; first | (apply Wl.ev rfl rfl; (focus (first | exact ev_move rfl | (apply gLoa; first | exact ev_loadAt (agT rfl) rfl (by repeat (first | exact List.Mem.head _ | apply List.Mem.tail)) (hcg _ hlt (by omega))) | exact ev_assign rfl | (apply gBin; first | exact ev_lti rfl rfl | exact ev_add64 rfl rfl (by omega) | exact ev_mul64 rfl rfl (by omega) | exact ev_subK rfl rfl (by first | exact wrap64_in (by omega) | exact IntWalk.u8_in _ (by omega) | exact IntWalk.i32_in _ (by omega))) | (apply gCal; first | exact (ev_min rfl rfl).to (show _ = Value.int .i64 ((wholeS 99999 (T.take (j + 1)) : Nat) : Int) from congrArg (Value.int .i64) (by rw [hV2]; omega))) | (apply gIxA; first | exact ev_indexAddr (slT rfl) (szT rfl) rfl rfl (by omega)) | (apply gCon; first | exact ev_convK (dT rfl) (intT rfl) rfl (by first | exact wrap64_in (by omega) | exact IntWalk.u8_in _ (by omega) | exact IntWalk.i32_in _ (by omega)))))) | apply Wl.nil) | ((show W _ _ _ _ _ _ _ _ _); first | apply W.seq | (refine W.again (j + 1) (Nat.succ_le_of_lt hlt) (by omega) (by repeat (first | exact SubL.nil | refine SubL.cons rfl ?_)) (by repeat (first | exact SubH.nil | apply SubH.keep | apply SubH.drop | exact List.Sublist.refl _ | exact List.sublist_append_left _ _))) | apply W.region | apply W.block | apply W.blk | apply W.skip | (refine W.cond rfl ?_ ?_ <;> (intro h; try (exfalso; first | contradiction | omega | exact h rfl | exact h ⟨rfl, rfl⟩ | (simp_all; done))))))
          ·obtain rfl : j = T.length := by omega
           rw [List.take_length]
           rw [whole_less] at hX
           have hw := wholeS_le 99999 T
           obtain ⟨V, hV⟩ : ∃ V, wholeS 99999 T = V := ⟨_, rfl⟩
           rw [hV] at hw hX ⊢
           by_cases hbig : 32767 < V
           ·rw [if_pos (by omega)] at hX
            repeat' (first | (apply gL; first | (apply Wl.ev rfl rfl; (focus (first | exact ev_move rfl | exact ev_assign rfl | (apply gBin; first | exact ev_lti rfl rfl | exact ev_gti rfl rfl) | (apply gBui; first | (apply ev_build (bldT rfl) rfl; simp [fillP]; rfl))))) | apply Wl.nil | (refine wl_storeWhole rfl rfl rfl (szT rfl) rfl (by repeat (first | exact Upd.here | apply Upd.there)) (by rfl) ?_)) | ((show W _ _ _ _ _ _ _ _ _); first | apply W.seq | apply W.region | (refine W.exit rfl ?_) | (refine W.cond rfl ?_ ?_ <;> (intro h; try (exfalso; first | contradiction | omega | exact h rfl | exact h ⟨rfl, rfl⟩ | (simp_all; done)))) | (refine W.retct rfl rfl (agT rfl) (by repeat (first | exact List.Mem.head _ | apply List.Mem.tail)) (szT rfl) rfl ?_; intro w hs)))
            exact ret_eq hs (by rw [← hX]; rfl)
           ·rw [if_neg (by omega), Nat.min_eq_left (by omega)] at hX
            repeat' (first | (apply gL; first | (apply Wl.ev rfl rfl; (focus (first | exact ev_move rfl | exact ev_assign rfl | (apply gBin; first | exact ev_lti rfl rfl | exact ev_gti rfl rfl) | (apply gBui; first | (apply ev_build (bldT rfl) rfl; simp [fillP]; rfl)) | (apply gSli; first | exact (ev_slice_string (strT rfl) rfl rfl rfl (by omega)).to (show _ = st T from by rw [← hT]; exact htk n (by omega) (by omega)))))) | apply Wl.nil | (refine wl_storeWhole rfl rfl rfl (szT rfl) rfl (by repeat (first | exact Upd.here | apply Upd.there)) (by rfl) ?_)) | (apply gQ; first | (apply Wq.ev rfl rfl; (focus (first | exact ev_move rfl | exact ev_assign rfl | (apply gBin; first | exact ev_lti rfl rfl | exact ev_gti rfl rfl) | (apply gBui; first | (apply ev_build (bldT rfl) rfl; simp [fillP]; rfl)) | (apply gSli; first | exact (ev_slice_string (strT rfl) rfl rfl rfl (by omega)).to (show _ = st T from by rw [← hT]; exact htk n (by omega) (by omega)))))) | ((show Wq _ _ (Qt _ _ _ _) _ _ _ _ [] _ _); apply Wq.tail) | ((show Wq _ _ _ _ _ _ _ (⟨_, .call ⟨.value (.func 92), _, _⟩, _, _, _, _⟩ :: _) _ _); refine Wq.call0 rfl rfl has92 rfl (fun w _ => of02_ok (V : Int) w) ?_)) | ((show W _ _ _ _ _ _ _ _ _); first | apply W.seq | ((show W _ _ _ _ _ _ (.inl (.region 30 _ true) :: _) _ _); refine W.regionT 7 mixed (by kernel_rfl) rfl rfl ?_) | apply W.region | apply W.skip | (refine W.exit rfl ?_) | (refine W.cond rfl ?_ ?_ <;> (intro h; try (exfalso; first | contradiction | omega | exact h rfl | exact h ⟨rfl, rfl⟩ | (simp_all; done)))) | (refine W.retct rfl rfl (agT rfl) (by repeat (first | exact List.Mem.head _ | apply List.Mem.tail)) (szT rfl) rfl ?_; intro w hs)))
            exact ret_eq hs (by rw [← hX, ← hT]; rfl)
  ·rw [if_neg h2] at hX
   have h3 : dgB c = false := by simpa using fun h => h2 (.inl h)
   have h4 : dgB d = true → ¬(c.toNat : Int) = 46 := fun h e => h2 (.inr ⟨UInt8.toNat_inj.1 (by show _ = 46; omega), h⟩)
   have ce : ∀ (x : Int) (w : World), x = (i : Int) + 1 → Calls Tryz.prog 88 #[st s, .int .i64 x] w (Give (by8 d) w) := fun x w hx => by rw [← hd]; exact at1 1 x w hx
   obtain ⟨sp1, sp2⟩ := sign_spec c d
   have hle := signN_le c d
   obtain ⟨N, hN⟩ : ∃ N, signN c d = N := ⟨_, rfl⟩
   rw [hN] at hX sp1 sp2 hle
   have htw : ∀ j, j < 13 → twoV[j]? = some (st [(twoL.getD j (0, 0)).1, (twoL.getD j (0, 0)).2]) := fun j hj => by
    have : j < twoL.length := hj
    simp [twoV, List.getD, this]
   repeat' (first | (apply gL; first | (apply Wl.ev rfl rfl; (focus (first | exact ev_move rfl | exact ev_assign rfl | (apply gPic; first | exact ev_pickT rfl rfl | exact ev_pickF rfl rfl) | (apply gBin; first | exact ev_eqi rfl rfl | exact ev_add64 rfl rfl (by omega)) | (apply gIdx; first | exact (ev_index_string (strT rfl) rfl rfl (by omega)).to (show _ = by8 c from hsc (by omega)))))) | (refine wl_alloc rfl rfl (zeroT rfl) ?_; intro tb) | ((show Wl _ _ _ _ _ _ _ (⟨_, .call ⟨.value (.func 93), _, _⟩, _, _, _, _⟩ :: _) _ _); refine wl_call0 rfl rfl has93 rfl (fun w _ => two_ok w) ?_) | ((show Wl _ _ _ _ _ _ _ (⟨_, .call ⟨.value (.func 88), _, _⟩, _, _, _, _⟩ :: _) _ _); refine wl_call0 rfl rfl has88 rfl (fun w _ => ce _ w (by omega)) ?_) | ((show Wl _ _ _ _ _ _ _ (⟨_, .call ⟨.value (.func 89), _, _⟩, _, _, _, _⟩ :: _) _ _); refine wl_call0 rfl rfl has89 rfl (fun w _ => letter10_ok _ w) ?_) | ((show Wl _ _ _ _ _ _ _ (⟨_, .call ⟨.value (.func 90), _, _⟩, _, _, _, _⟩ :: _) _ _); refine wl_call0 rfl rfl has90 rfl (fun w _ => digit10_ok _ w) ?_) | apply Wl.nil | (refine Wl.skip rfl rfl ?_) | ((fail_if_success (apply Wl.chk rfl)); refine Wl.split rfl rfl ?_ ?_ <;> (intro h; try (exfalso; first | contradiction | omega | exact h rfl | exact h ⟨rfl, rfl⟩ | (simp_all; done)))) | ((fail_if_success (apply Wl.chk rfl)); refine Wl.splitB rfl rfl ?_ ?_ <;> (intro h; try (exfalso; first | contradiction | (simp_all; done))))) | (apply gQ; first | (apply Wq.ev rfl rfl; (focus (first | exact ev_move rfl | exact ev_assign rfl | (apply gPic; first | exact ev_pickT rfl rfl | exact ev_pickF rfl rfl) | (apply gBin; first | exact ev_eqi rfl rfl | exact ev_add64 rfl rfl (by omega)) | (apply gIdx; first | exact (ev_index_string (strT rfl) rfl rfl (by omega)).to (show _ = by8 c from hsc (by omega))))))) | ((show W _ _ _ _ _ _ _ _ _); first | apply W.seq | (refine W.loop (X := Nat) (fun j => [(0, st s), (1, .int .i64 (i : Nat)), (4, ptr tb), (6, by8 c), (154, .agg twoV.toArray), (155, .int .i64 (j : Nat))]) (fun _ => [⟨tb, true, row [.int .i64 0, .string ⟨#[]⟩, .int .i32 0, .int .i64 0, .int .i64 0] 42⟩]) (fun j => j ≤ 13 ∧ ∀ m, m < j → twoL.getD m (0, 0) ≠ (c, d)) (fun j => 13 - j) 0 ⟨Nat.zero_le _, fun m h => absurd h (Nat.not_lt_zero _)⟩ (by repeat (first | exact SubL.nil | refine SubL.cons rfl ?_)) (by repeat (first | exact SubH.nil | apply SubH.keep | apply SubH.drop | exact List.Sublist.refl _ | exact List.sublist_append_left _ _)) ?_) | apply W.region | apply W.block | apply W.blk | apply W.skip | (refine W.condF rfl ?_) | (refine W.condB rfl ?_ ?_ <;> (intro h; try (exfalso; first | contradiction | (simp_all; done))))))
   all_goals first
    | (exfalso; simp_all; done)
    | (exfalso; rename_i q1 q2; exact h4 (by simpa using q2) q1)
    | skip
   all_goals
    rintro j ⟨hj, hno⟩
    by_cases hlt : j < 13
    ·obtain ⟨⟨A, B⟩, hAB⟩ : ∃ p, twoL.getD j (0, 0) = p := ⟨_, rfl⟩
     have hg := htw j hlt
     rw [hAB] at hg
     dsimp only at hg
     have hg2 : ∀ off, off = j → twoV[off]? = some (st [A, B]) := fun off e => by subst e; exact hg
     by_cases hcd : (A, B) = (c, d)
     ·cases hcd
      have hm2 : (c, d) ∈ twoL := by
       have : j < twoL.length := hlt
       rw [← hAB]
       simp [List.getD, this]
      obtain rfl : N = 2 := sp1.2 hm2
      rw [if_neg (by omega)] at hX
      rw [← hX] at hm
      dsimp only at hm
      have htx : [c, d] = l.take 2 := by
       match l, hm, hc, hd with
       | x :: y :: l, _, h1, h2 => simp at h1 h2; simp [h1, h2]
      repeat' (first | (apply gL; first | (apply Wl.ev rfl rfl; (focus (first | exact ev_move rfl | exact ev_assign rfl | exact ev_pickT rfl rfl | (apply gBin; first | exact ev_eqi rfl rfl | exact ev_lti rfl rfl | exact ev_add64 rfl rfl (by omega)) | (apply gBui; first | (apply ev_build (bldT rfl) rfl; simp [fillP]; rfl)) | (apply gIdx; first | exact ev_index_array (arrT rfl) (agT rfl) (szT rfl) rfl rfl (by omega) (hg2 _ (by omega)) | exact (ev_index_string (strT rfl) rfl rfl (by simp)).to (show _ = by8 c from rfl) | exact (ev_index_string (strT rfl) rfl rfl (by simp)).to (show _ = by8 d from rfl))))) | apply Wl.nil | (refine wl_storeWhole rfl rfl rfl (szT rfl) rfl (by repeat (first | exact Upd.here | apply Upd.there)) (by rfl) ?_)) | (apply gQ; first | (apply Wq.ev rfl rfl; (focus (first | exact ev_move rfl | exact ev_assign rfl | exact ev_pickT rfl rfl | (apply gBin; first | exact ev_eqi rfl rfl | exact ev_lti rfl rfl | exact ev_add64 rfl rfl (by omega)) | (apply gBui; first | (apply ev_build (bldT rfl) rfl; simp [fillP]; rfl)) | (apply gIdx; first | exact ev_index_array (arrT rfl) (agT rfl) (szT rfl) rfl rfl (by omega) (hg2 _ (by omega)) | exact (ev_index_string (strT rfl) rfl rfl (by simp)).to (show _ = by8 c from rfl) | exact (ev_index_string (strT rfl) rfl rfl (by simp)).to (show _ = by8 d from rfl))))) | ((show Wq _ _ _ _ _ _ _ (⟨_, .call ⟨.value (.func 88), _, _⟩, _, _, _, _⟩ :: _) _ _); refine Wq.call0 rfl rfl has88 rfl (fun w _ => ce _ w (by omega)) ?_) | apply Wq.nil | ((fail_if_success (apply Wq.chk rfl)); refine Wq.split rfl rfl ?_ ?_ <;> (intro h; try (exfalso; first | contradiction | omega | exact h rfl | exact h ⟨rfl, rfl⟩ | (simp_all; done))))) | ((show W _ _ _ _ _ _ _ _ _); first | apply W.seq | (refine W.regionQ mixed (by kernel_rfl) ?_) | apply W.region | apply W.block | apply W.skip | (refine W.cond rfl ?_ ?_ <;> (intro h; try (exfalso; first | contradiction | omega | exact h rfl | exact h ⟨rfl, rfl⟩ | (simp_all; done)))) | (refine W.retct rfl rfl (agT rfl) (by repeat (first | exact List.Mem.head _ | apply List.Mem.tail)) (szT rfl) rfl ?_; intro w hs)))
      all_goals first
       | exact ret_eq hs (by rw [← hX, htx]; rfl)
       | (exfalso; simp_all; done)
     ·have hne : ¬((c.toNat : Int) = (A.toNat : Int) ∧ (d.toNat : Int) = (B.toNat : Int)) := fun h => hcd (by rw [UInt8.toNat_inj.1 (show c.toNat = A.toNat by omega), UInt8.toNat_inj.1 (show d.toNat = B.toNat by omega)])
      have hno' : ∀ m, m < j + 1 → twoL.getD m (0, 0) ≠ (c, d) := fun m hm => by
       rcases Nat.lt_or_ge m j with h | h
       ·exact hno m h
       ·rw [show m = j by omega, hAB]
        exact hcd
      repeat' (first | (apply gL; first | (apply Wl.ev rfl rfl; (focus (first | exact ev_move rfl | exact ev_assign rfl | (apply gPic; first | exact ev_pickT rfl rfl | exact ev_pickF rfl rfl) | (apply gBin; first | exact ev_eqi rfl rfl | exact ev_lti rfl rfl | exact ev_add64 rfl rfl (by omega)) | (apply gIdx; first | exact ev_index_array (arrT rfl) (agT rfl) (szT rfl) rfl rfl (by omega) (hg2 _ (by omega)) | exact (ev_index_string (strT rfl) rfl rfl (by simp)).to (show _ = by8 A from rfl) | exact (ev_index_string (strT rfl) rfl rfl (by simp)).to (show _ = by8 B from rfl))))) | apply Wl.nil) | (apply gQ; first | (apply Wq.ev rfl rfl; (focus (first | exact ev_move rfl | exact ev_assign rfl | (apply gPic; first | exact ev_pickT rfl rfl | exact ev_pickF rfl rfl) | (apply gBin; first | exact ev_eqi rfl rfl | exact ev_lti rfl rfl | exact ev_add64 rfl rfl (by omega)) | (apply gIdx; first | exact ev_index_array (arrT rfl) (agT rfl) (szT rfl) rfl rfl (by omega) (hg2 _ (by omega)) | exact (ev_index_string (strT rfl) rfl rfl (by simp)).to (show _ = by8 A from rfl) | exact (ev_index_string (strT rfl) rfl rfl (by simp)).to (show _ = by8 B from rfl))))) | ((show Wq _ _ _ _ _ _ _ (⟨_, .call ⟨.value (.func 88), _, _⟩, _, _, _, _⟩ :: _) _ _); refine Wq.call0 rfl rfl has88 rfl (fun w _ => ce _ w (by omega)) ?_) | apply Wq.nil | (refine Wq.skip rfl rfl ?_) | ((fail_if_success (apply Wq.chk rfl)); refine Wq.split rfl rfl ?_ ?_ <;> (intro h; try (exfalso; first | contradiction | omega | exact h rfl | exact h ⟨rfl, rfl⟩ | (simp_all; done))))) | ((show W _ _ _ _ _ _ _ _ _); first | apply W.seq | (refine W.again (j + 1) ⟨by omega, hno'⟩ (by omega) (by repeat (first | exact SubL.nil | refine SubL.cons rfl ?_)) (by repeat (first | exact SubH.nil | apply SubH.keep | apply SubH.drop | exact List.Sublist.refl _ | exact List.sublist_append_left _ _))) | (refine W.regionQ mixed (by kernel_rfl) ?_) | apply W.region | apply W.block | apply W.blk | apply W.skip | (refine W.condF rfl ?_) | (refine W.cond rfl ?_ ?_ <;> (intro h; try (exfalso; first | contradiction | omega | exact h rfl | exact h ⟨rfl, rfl⟩ | (simp_all; done))))))
      all_goals (exfalso; first | omega | (simp_all; done))
    ·have hm2 : (c, d) ∉ twoL := fun h => by
      obtain ⟨m, hm, he⟩ := List.mem_iff_getElem.1 h
      have hm' : m < 13 := hm
      exact hno m (by omega) (by simp [List.getD, hm, he])
     have hN2 : N ≠ 2 := fun h => hm2 (sp1.1 h)
     have sp := sp2 hN2
     by_cases ho : c ∈ oneL
     ·obtain rfl : N = 1 := sp.2 ho
      rw [if_neg (by omega)] at hX
      repeat' (first | (apply gL; first | (apply Wl.ev rfl rfl; (focus (first | exact ev_move rfl | exact ev_assign rfl | (apply gBin; first | exact ev_lti rfl rfl | exact ev_add64 rfl rfl (by omega)) | (apply gBui; first | (apply ev_build (bldT rfl) rfl; simp [fillP]; rfl)) | (apply gSli; first | exact (ev_slice_string (strT rfl) rfl rfl rfl (by omega)).to (show _ = st (l.take 1) from htk 1 (by omega) (by omega)))))) | ((show Wl _ _ _ _ _ _ _ (⟨_, .call ⟨.value (.func 94), _, _⟩, _, _, _, _⟩ :: _) _ _); refine wl_call0 rfl rfl has94 rfl (fun w _ => Give.to (oneW_ok c w) (congrArg Value.bool (decide_eq_true ho))) ?_) | apply Wl.nil | (refine wl_storeWhole rfl rfl rfl (szT rfl) rfl (by repeat (first | exact Upd.here | apply Upd.there)) (by rfl) ?_)) | (apply gQ; first | (apply Wq.ev rfl rfl; (focus (first | exact ev_move rfl | exact ev_assign rfl | (apply gBin; first | exact ev_lti rfl rfl | exact ev_add64 rfl rfl (by omega)) | (apply gBui; first | (apply ev_build (bldT rfl) rfl; simp [fillP]; rfl)) | (apply gSli; first | exact (ev_slice_string (strT rfl) rfl rfl rfl (by omega)).to (show _ = st (l.take 1) from htk 1 (by omega) (by omega))))))) | ((show W _ _ _ _ _ _ _ _ _); first | apply W.seq | apply W.region | (refine W.exit rfl ?_) | (refine W.condT rfl ?_) | (refine W.cond rfl ?_ ?_ <;> (intro h; try (exfalso; first | contradiction | omega | exact h rfl | exact h ⟨rfl, rfl⟩ | (simp_all; done)))) | (refine W.retct rfl rfl (agT rfl) (by repeat (first | exact List.Mem.head _ | apply List.Mem.tail)) (szT rfl) rfl ?_; intro w hs)))
      all_goals first
       | exact ret_eq hs (by rw [← hX]; rfl)
       | (exfalso; simp_all; done)
     ·have hN0 : N = 0 := by
       have : N ≠ 1 := fun h => ho (sp.1 h)
       omega
      rw [if_pos hN0] at hX
      repeat' (first | (apply gL; first | (apply Wl.ev rfl rfl; (focus (first | exact ev_move rfl | exact ev_assign rfl | exact ev_lti rfl rfl | (apply gBui; first | (apply ev_build (bldT rfl) rfl; simp [fillP]; rfl))))) | ((show Wl _ _ _ _ _ _ _ (⟨_, .call ⟨.value (.func 94), _, _⟩, _, _, _, _⟩ :: _) _ _); refine wl_call0 rfl rfl has94 rfl (fun w _ => Give.to (oneW_ok c w) (congrArg Value.bool (decide_eq_false ho))) ?_) | apply Wl.nil | (refine wl_storeWhole rfl rfl rfl (szT rfl) rfl (by repeat (first | exact Upd.here | apply Upd.there)) (by rfl) ?_)) | (apply gQ; first | (apply Wq.ev rfl rfl; (focus (first | exact ev_move rfl | exact ev_assign rfl | exact ev_lti rfl rfl | (apply gBui; first | (apply ev_build (bldT rfl) rfl; simp [fillP]; rfl)))))) | ((show W _ _ _ _ _ _ _ _ _); first | apply W.seq | apply W.region | apply W.skip | (refine W.exit rfl ?_) | (refine W.condF rfl ?_) | (refine W.cond rfl ?_ ?_ <;> (intro h; try (exfalso; first | contradiction | omega | exact h rfl | exact h ⟨rfl, rfl⟩ | (simp_all; done)))) | (refine W.retct rfl rfl (agT rfl) (by repeat (first | exact List.Mem.head _ | apply List.Mem.tail)) (szT rfl) rfl ?_; intro w hs)))
      all_goals first
       | exact ret_eq hs (by rw [← hX]; rfl)
       | (exfalso; simp_all; done)
end Go.Proofs.YtbinaeemcidicaaGreat
