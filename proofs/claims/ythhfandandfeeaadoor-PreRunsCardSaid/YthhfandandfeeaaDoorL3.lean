/- Walks of the program's reader: going on, signs, numbers. No condition. -/
import Derived.Test.YthhfandandfeeaaDoorL2
namespace Go.Proofs.YthhfandandfeeaaDoor
open Go.PB Go.RowKit
attribute [local irreducible] Go.Calls
set_option maxRecDepth 100000 in
theorem skipm_ok {s : List UInt8} {i ln b : Nat} (hl : s.length ≤ 1000000) (hln : ln ≤ 1000000) (n : Nat) (hn : i + n ≤ s.length) (w : World) (hr : w.heap[b]? = some (rdr s i ln)) :
    Calls Tryd.prog 30 #[ptr b, .int .i64 (n : Nat)] w (GiveT (.tuple #[]) b (rdr s (i + n) (ln + nlN ((s.take (i + n)).drop i))) w) := by
  refine giveT_of_W (vs := [ptr b, .int .i64 (n : Nat)]) Tryd.func30 rfl Tryd.ntmps30 (Nat.le_of_ble_eq_true rfl) (St.turnable hr) ?_
  simp only [argL, Nat.zero_add]
  have hcnt : nlN ((s.take (i + n)).drop i) ≤ 1000000 := by
    have : nlN ((s.take (i + n)).drop i) ≤ ((s.take (i + n)).drop i).length := List.count_le_length
    simp only [List.length_drop, List.length_take] at this
    omega
  have e1 : ∀ x : Int, x = (i : Int) + (n : Int) → (Value.int .i64 x) = .int .i64 ((i + n : Nat) : Int) := fun x hx => by subst hx; rfl
  obtain ⟨K, hK⟩ : ∃ K, nlN ((s.take (i + n)).drop i) = K := ⟨_, rfl⟩
  rw [hK] at hcnt ⊢
  repeat' (first | (apply gL; first | (apply Wl.ev rfl rfl; (focus (first | exact ev_move rfl | (apply gLoa; first | exact ev_load (agT rfl) rfl (by repeat (first | exact List.Mem.head _ | apply List.Mem.tail)) rfl) | (apply gFie; first | exact ev_fieldAddr0 (fldT rfl) rfl) | (apply gBin; first | exact ev_add64 rfl rfl (by omega)) | (apply gSli; first | exact (ev_slice_string (strT rfl) rfl rfl rfl (by omega)).to (show _ = st ((s.take (i + n)).drop i) from by rw [show ((i : Int) + (n : Int)).toNat = i + n by omega, Int.toNat_natCast])) | exact ev_nilCheck_ptr rfl))) | apply Wl.nil | (refine wl_store1 rfl rfl rfl rfl (szT rfl) (by repeat (first | exact Upd.here | apply Upd.there)) (by first | decide | (simp; done)) ?_; try simp only [List.set])) | (apply gQ; first | (apply Wq.ev rfl rfl; (focus (first | exact ev_move rfl | (apply gLoa; first | exact ev_load (agT rfl) rfl (by repeat (first | exact List.Mem.head _ | apply List.Mem.tail)) rfl) | (apply gFie; first | exact ev_fieldAddr0 (fldT rfl) rfl) | (apply gBin; first | exact ev_add64 rfl rfl (by omega)) | (apply gSli; first | exact (ev_slice_string (strT rfl) rfl rfl rfl (by omega)).to (show _ = st ((s.take (i + n)).drop i) from by rw [show ((i : Int) + (n : Int)).toNat = i + n by omega, Int.toNat_natCast])) | exact ev_nilCheck_ptr rfl))) | ((show Wq _ _ (Qt _ _ _ _) _ _ _ _ [] _ _); apply Wq.tail) | ((show Wq _ _ _ _ _ _ _ (⟨_, .call ⟨.value (.func 51), _, _⟩, _, _, _, _⟩ :: _) _ _); refine Wq.call0 rfl rfl has51 rfl (fun w _ => Give.to (count_ok ((s.take (i + n)).drop i) 10 w) (congrArg (fun k : Nat => Value.int .i64 (k : Int)) hK)) ?_)) | ((show W _ _ _ _ _ _ _ _ _); first | apply W.seq | (refine W.regionT 23 mixed (by kernel_rfl) rfl rfl ?_) | apply W.region | (refine W.end0 rfl ?_; intro w hs)))
  exact retT hs (lt_of_get hr) (List.Mem.head _) rfl
theorem signN_int (c d : UInt8) : (signN c d : Int) = if (c.toNat : Int) = 61 ∨ (c.toNat : Int) = 33 ∨ (c.toNat : Int) = 60 ∨ (c.toNat : Int) = 62 ∨ (c.toNat : Int) = 42 ∨ (c.toNat : Int) = 47 then (if (d.toNat : Int) = 61 then 2 else 1)
    else if (c.toNat : Int) = 43 ∨ (c.toNat : Int) = 45 then (if (d.toNat : Int) = 61 ∨ (d.toNat : Int) = c.toNat then 2 else 1)
    else if (c.toNat : Int) = 38 ∨ (c.toNat : Int) = 124 then (if (d.toNat : Int) = c.toNat then 2 else 0)
    else if (c.toNat : Int) = 40 ∨ (c.toNat : Int) = 41 ∨ (c.toNat : Int) = 91 ∨ (c.toNat : Int) = 93 ∨ (c.toNat : Int) = 123 ∨ (c.toNat : Int) = 125 ∨ (c.toNat : Int) = 46 ∨ (c.toNat : Int) = 44 ∨ (c.toNat : Int) = 59 ∨ (c.toNat : Int) = 58 ∨ (c.toNat : Int) = 63 ∨ (c.toNat : Int) = 35 then 1
    else 0 := by
  have e : ∀ a b : UInt8, a = b ↔ (a.toNat : Int) = b.toNat := fun a b => by rw [← UInt8.toNat_inj]; omega
  unfold signN
  simp only [e]
  simp only [show ((61 : UInt8).toNat : Int) = 61 from rfl, show ((33 : UInt8).toNat : Int) = 33 from rfl, show ((60 : UInt8).toNat : Int) = 60 from rfl, show ((62 : UInt8).toNat : Int) = 62 from rfl, show ((42 : UInt8).toNat : Int) = 42 from rfl, show ((47 : UInt8).toNat : Int) = 47 from rfl,
    show ((43 : UInt8).toNat : Int) = 43 from rfl, show ((45 : UInt8).toNat : Int) = 45 from rfl, show ((38 : UInt8).toNat : Int) = 38 from rfl, show ((124 : UInt8).toNat : Int) = 124 from rfl, show ((40 : UInt8).toNat : Int) = 40 from rfl, show ((41 : UInt8).toNat : Int) = 41 from rfl,
    show ((91 : UInt8).toNat : Int) = 91 from rfl, show ((93 : UInt8).toNat : Int) = 93 from rfl, show ((123 : UInt8).toNat : Int) = 123 from rfl, show ((125 : UInt8).toNat : Int) = 125 from rfl, show ((46 : UInt8).toNat : Int) = 46 from rfl, show ((44 : UInt8).toNat : Int) = 44 from rfl,
    show ((59 : UInt8).toNat : Int) = 59 from rfl, show ((58 : UInt8).toNat : Int) = 58 from rfl, show ((63 : UInt8).toNat : Int) = 63 from rfl, show ((35 : UInt8).toNat : Int) = 35 from rfl]
  repeat' split
  all_goals rfl
set_option maxRecDepth 100000 in
theorem sign_ok {s : List UInt8} {i ln b : Nat} (hl : s.length ≤ 1000000) (hi : i ≤ s.length) (w : World) (hr : w.heap[b]? = some (rdr s i ln)) :
    Calls Tryd.prog 50 #[ptr b] w (Give (.int .i64 (signN ((s.drop i).getD 0 0) ((s.drop i).getD 1 0) : Nat)) w) := by
  refine give_of_W (vs := [ptr b]) Tryd.func50 rfl Tryd.ntmps50 (Nat.le_of_ble_eq_true rfl) (St.read hr []) ?_
  simp only [argL]
  have p0 : ∀ w : World, w.heap[b]? = some (rdr s i ln) → Calls Tryd.prog 43 #[ptr b, .int .i64 (0 : Int)] w (Give (by8 ((s.drop i).getD 0 0)) w) := fun w h => peek_ok hl hi 0 (by omega) w h
  have p1 : ∀ w : World, w.heap[b]? = some (rdr s i ln) → Calls Tryd.prog 43 #[ptr b, .int .i64 (1 : Int)] w (Give (by8 ((s.drop i).getD 1 0)) w) := fun w h => peek_ok hl hi 1 (by omega) w h
  rw [signN_int]
  obtain ⟨C, hC⟩ : ∃ C, (s.drop i).getD 0 0 = C := ⟨_, rfl⟩
  obtain ⟨D, hD⟩ : ∃ D, (s.drop i).getD 1 0 = D := ⟨_, rfl⟩
  rw [hC] at p0
  rw [hD] at p1
  rw [hC, hD]
  obtain ⟨c, hc⟩ : ∃ c : Int, (C.toNat : Int) = c := ⟨_, rfl⟩
  obtain ⟨d, hd⟩ : ∃ d : Int, (D.toNat : Int) = d := ⟨_, rfl⟩
  unfold by8 at p0 p1
  rw [hc] at p0
  rw [hd] at p1
  rw [hc, hd]
  repeat' (first | (apply gL; first | (apply Wl.ev rfl rfl; (focus (first | exact ev_move rfl | exact ev_assign rfl | (apply gPic; first | exact ev_pickT rfl rfl | exact ev_pickF rfl rfl) | exact ev_eqi rfl rfl))) | ((show Wl _ _ _ _ _ _ _ (⟨_, .call ⟨.value (.func 43), _, _⟩, _, _, _, _⟩ :: _) _ _); first | (refine wl_call0 rfl rfl has43 rfl (fun w hs => p0 w (hs.get (by repeat (first | exact List.Mem.head _ | apply List.Mem.tail)))) ?_) | (refine wl_call0 rfl rfl has43 rfl (fun w hs => p1 w (hs.get (by repeat (first | exact List.Mem.head _ | apply List.Mem.tail)))) ?_)) | apply Wl.nil | (refine Wl.skip rfl rfl ?_) | ((fail_if_success (apply Wl.chk rfl)); refine Wl.split rfl rfl ?_ ?_ <;> (intro h; try (exfalso; first | contradiction | omega | exact h rfl | exact h ⟨rfl, rfl⟩ | (simp_all; done))))) | ((show W _ _ _ _ _ _ _ _ _); first | apply W.seq | apply W.region | apply W.block | apply W.blk | apply W.skip | (refine W.condT rfl ?_) | (refine W.cond rfl ?_ ?_ <;> (intro h; try (exfalso; first | contradiction | omega | exact h rfl | exact h ⟨rfl, rfl⟩ | (simp_all; done)))) | (refine W.ret1 rfl rfl ?_; intro w hs)))
  all_goals exact ret_eq hs (congrArg (Value.int .i64) (by simp_all))
end Go.Proofs.YthhfandandfeeaaDoor
