/- Walks: a reader's digits, pairs of digits, bytes. No condition but the listed tables and cells that the library reads. -/
import Derived.Test.YtdnicbbandbdbaaDoorSJ
namespace Go.Proofs.YtdnicbbandbdbaaDoor
open Go.PB Go.RowKit
attribute [local irreducible] Go.Calls
def dgV (c : UInt8) : Int := IntKind.u8.wrap (Lib.indexByte hexL c)
theorem dg_all (c : UInt8) : (halfS c).isSome = decide (0 ≤ Lib.indexByte hexL c) ∧ (∀ p, halfS c = some p → dgV c = (p : Nat)) := by
  have key : ∀ c : Fin 256, (halfS (UInt8.ofNat c.val)).isSome = decide (0 ≤ Lib.indexByte hexL (UInt8.ofNat c.val)) ∧ ((halfS (UInt8.ofNat c.val)).isSome = true → dgV (UInt8.ofNat c.val) = (((halfS (UInt8.ofNat c.val)).getD 0 : Nat) : Int)) := by decide +kernel
  have := key ⟨c.toNat, c.toNat_lt⟩
  simp only [UInt8.ofNat_toNat] at this
  refine ⟨this.1, fun p hp => ?_⟩
  have h2 := this.2 (by rw [hp]; rfl)
  rw [hp] at h2
  exact h2
set_option maxRecDepth 100000 in
theorem digit_ok (c : UInt8) (w : World) : Calls Tryd.prog 86 #[by8 c] w (Give (.tuple #[.int .u8 (dgV c), .bool (halfS c).isSome]) w) := by
  refine give_of_W (vs := [by8 c]) Tryd.func86 rfl Tryd.ntmps86 (Nat.le_of_ble_eq_true rfl) (St.nil w []) ?_
  simp only [argL]
  have hi : ∀ w, Calls Tryd.prog 13 #[st hexL, by8 c] w (Give (.int .i64 (Lib.indexByte hexL c)) w) := fun w => by
    have e : ((c.toNat : Int).toNat).toUInt8 = c := by simp
    refine (Tryd.strings_IndexByte ⟨hexL.toArray⟩ (c.toNat : Int) w).mono ?_
    rintro e1 w' ⟨rfl, rfl⟩
    rw [e]
    exact ⟨rfl, rfl, rfl, rfl, Nat.le_refl _, fun _ _ _ => rfl, by simp, by simp, .nil⟩
  rw [(dg_all c).1]
  unfold dgV
  obtain ⟨k, hk⟩ : ∃ k, Lib.indexByte hexL c = k := ⟨_, rfl⟩
  rw [hk] at hi ⊢
  repeat' (first | (apply gL; first | (apply Wl.ev rfl rfl; (focus (first | exact ev_move rfl | exact ev_assign rfl | exact ev_gei rfl rfl | (apply gCon; first | exact ev_conv (dT rfl) (intT rfl) rfl)))) | ((show Wl _ _ _ _ _ _ _ (⟨_, .call ⟨.value (.func 13), _, _⟩, _, _, _, _⟩ :: _) _ _); refine wl_call0 rfl rfl has13 rfl (fun w hs => hi w) ?_) | apply Wl.nil) | (apply gQ; first | (apply Wq.ev rfl rfl; (focus (first | exact ev_move rfl | exact ev_assign rfl | exact ev_gei rfl rfl | (apply gCon; first | exact ev_conv (dT rfl) (intT rfl) rfl))))) | ((show W _ _ _ _ _ _ _ _ _); first | apply W.seq | apply W.region | (refine W.ret2 rfl rfl rfl ?_; intro w hs)))
  all_goals first | exact ret_eq hs rfl | fail
theorem pair_byte : ∀ p q : Nat, p < 16 → q < 16 → IntKind.u8.wrap (BitVec.ofInt 8 (IntKind.u8.wrap ((p : Int) * 2 ^ 4)) ||| BitVec.ofInt 8 (q : Int)).toNat = ((p * 16 + q : Nat) : Int) := by
  have : ∀ p q : Fin 16, IntKind.u8.wrap (BitVec.ofInt 8 (IntKind.u8.wrap ((p.val : Int) * 2 ^ 4)) ||| BitVec.ofInt 8 (q.val : Int)).toNat = ((p.val * 16 + q.val : Nat) : Int) := by decide +kernel
  exact fun p q hp hq => this ⟨p, hp⟩ ⟨q, hq⟩
def prV (a b : UInt8) : Int := IntKind.u8.wrap (BitVec.ofInt 8 (IntKind.u8.wrap (dgV a * 2 ^ 4)) ||| BitVec.ofInt 8 (dgV b)).toNat
theorem prV_some {a b x : UInt8} (h : pairS a b = some x) : prV a b = x.toNat := by
  unfold pairS at h
  split at h
  · rename_i p q hp hq
    cases h
    have h1 := (half_iff.1 hp).1
    have h2 := (half_iff.1 hq).1
    unfold prV
    rw [(dg_all a).2 p hp, (dg_all b).2 q hq, pair_byte p q h1 h2]
    have : (UInt8.ofNat (p * 16 + q)).toNat = p * 16 + q := Nat.mod_eq_of_lt (by omega)
    rw [this]
  · cases h
theorem pair_isSome (a b : UInt8) : (pairS a b).isSome = ((halfS a).isSome && (halfS b).isSome) := by
  unfold pairS
  cases halfS a <;> cases halfS b <;> rfl
set_option maxRecDepth 100000 in
theorem pair_ok (a b : UInt8) (t : List UInt8) (ht : t.length ≤ 1000000) (w : World) : Calls Tryd.prog 73 #[st (a :: b :: t)] w (Give (.tuple #[.int .u8 (prV a b), .bool (pairS a b).isSome]) w) := by
  refine give_of_W (vs := [st (a :: b :: t)]) Tryd.func73 rfl Tryd.ntmps73 (Nat.le_of_ble_eq_true rfl) (St.nil w []) ?_
  simp only [argL]
  rw [pair_isSome]
  unfold prV
  have ha := digit_ok a
  have hb := digit_ok b
  obtain ⟨x, hx⟩ : ∃ x, dgV a = x := ⟨_, rfl⟩
  obtain ⟨y, hy⟩ : ∃ y, dgV b = y := ⟨_, rfl⟩
  obtain ⟨f, hf⟩ : ∃ f, (halfS a).isSome = f := ⟨_, rfl⟩
  obtain ⟨g, hg⟩ : ∃ g, (halfS b).isSome = g := ⟨_, rfl⟩
  rw [hx, hf] at ha ⊢
  rw [hy, hg] at hb ⊢
  cases f <;> cases g
  all_goals (
    repeat' (first | (apply gL; first | (apply Wl.ev rfl rfl; (focus (first | exact ev_move rfl | exact ev_assign rfl | (apply gPic; first | exact ev_pickT rfl rfl | exact ev_pickF rfl rfl) | (apply gBin; first | exact ev_shl rfl rfl (by decide) | exact ev_or rfl rfl | exact ev_shl rfl rfl (by decide) | exact ev_or rfl rfl) | exact ev_extract rfl rfl | (apply gIdx; first | exact (ev_index_string (strT rfl) rfl rfl (by simp only [List.length_cons]; omega)).to (show _ = by8 a from rfl) | exact (ev_index_string (strT rfl) rfl rfl (by simp only [List.length_cons]; omega)).to (show _ = by8 b from rfl))))) | ((show Wl _ _ _ _ _ _ _ (⟨some 11, .call ⟨.value (.func 86), _, _⟩, _, _, _, _⟩ :: _) _ _); refine wl_call0 rfl rfl has86 rfl (fun w hs => ha w) ?_) | ((show Wl _ _ _ _ _ _ _ (⟨some 17, .call ⟨.value (.func 86), _, _⟩, _, _, _, _⟩ :: _) _ _); refine wl_call0 rfl rfl has86 rfl (fun w hs => hb w) ?_) | apply Wl.nil | (refine Wl.skip rfl rfl ?_)) | (apply gQ; first | (apply Wq.ev rfl rfl; (focus (first | exact ev_move rfl | exact ev_assign rfl | (apply gPic; first | exact ev_pickT rfl rfl | exact ev_pickF rfl rfl) | (apply gBin; first | exact ev_shl rfl rfl (by decide) | exact ev_or rfl rfl | exact ev_shl rfl rfl (by decide) | exact ev_or rfl rfl) | exact ev_extract rfl rfl | (apply gIdx; first | exact (ev_index_string (strT rfl) rfl rfl (by simp only [List.length_cons]; omega)).to (show _ = by8 a from rfl) | exact (ev_index_string (strT rfl) rfl rfl (by simp only [List.length_cons]; omega)).to (show _ = by8 b from rfl)))))) | ((show W _ _ _ _ _ _ _ _ _); first | apply W.seq | apply W.region | (refine W.ret2 rfl rfl rfl ?_; intro w hs)))
    all_goals first | exact ret_eq hs rfl | fail)
end Go.Proofs.YtdnicbbandbdbaaDoor
