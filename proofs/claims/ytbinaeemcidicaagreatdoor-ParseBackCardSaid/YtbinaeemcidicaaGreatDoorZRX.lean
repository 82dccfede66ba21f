/- What may be read in blocks that are known; rows that are laid anew in memory. No condition. -/
import Derived.Test.YtbinaeemcidicaaGreatDoorZEN
set_option maxHeartbeats 16000000
namespace Go.PB
open Go.RowKit
def ro (H : List Ent) : List Ent := H.map fun p => ⟨p.b, false, p.o⟩
theorem mem_ro {H : List Ent} {b : Nat} {wr : Bool} {o : Obj} (h : (⟨b, wr, o⟩ : Ent) ∈ H) : (⟨b, false, o⟩ : Ent) ∈ ro H := List.mem_map.2 ⟨_, h, rfl⟩
theorem St.reads {M : List Nat} {w0 w : World} {H : List Ent} (h : St M w0 w H) : St [] w w (ro H) := by
 refine ⟨rfl, rfl, rfl, Nat.le_refl _, fun _ _ _ => rfl, fun p hp => ?_, ?_⟩
 ·obtain ⟨q, hq, rfl⟩ := List.mem_map.1 hp
  exact ⟨(h.own q hq).1, fun e => by cases e⟩
 ·unfold ro
  rw [List.pairwise_map]
  exact List.Pairwise.imp (fun _ _ => ⟨rfl, rfl⟩) h.apart
end Go.PB
namespace Go.PB
open Go.RowKit
open Classical in
noncomputable instance entDec : DecidableEq Ent := fun _ _ => inferInstance
theorem sub_perm : ∀ (l m : List Ent), (∀ e, l.count e ≤ m.count e) → ∃ r, List.Perm m (l ++ r)
 | [], m, _ => ⟨m, List.Perm.refl _⟩
 | a :: l, m, h => by
  have ha : a ∈ m := List.count_pos_iff.1 (by have := h a; simp at this; omega)
  have hp := List.perm_cons_erase ha
  obtain ⟨r, hr⟩ := sub_perm l (m.erase a) (fun e => by
   have h1 := h e
   have h2 := hp.count_eq e
   rw [List.count_cons] at h1 h2
   omega)
  exact ⟨r, hp.trans (List.Perm.cons a hr)⟩
theorem St.subc {M : List Nat} {w0 w : World} {H H' : List Ent} (h : St M w0 w H) (hc : ∀ e, H'.count e ≤ H.count e) : St M w0 w H' := by
 obtain ⟨r, hp⟩ := sub_perm H' H hc
 exact (h.perm hp).sub (List.sublist_append_left _ _)
theorem W.reC {P : Program} {Z : Exit → Act → World → Prop} {M : List Nat} {w0 : World} {n : Nat} {D : List Deferred} {k : List Kt} {L : List (Nat × Value)} {H H' : List Ent} (hc : ∀ e, H'.count e ≤ H.count e) (h : W P Z M w0 n D k L H') : W P Z M w0 n D k L H := by
 unfold W at h ⊢
 exact fun a w hf hs => h a w hf (hs.subc hc)
theorem Wl.reC {P : Program} {ops : Array Oper} {Q : Exit → Act → World → Prop} {M : List Nat} {w0 : World} {n : Nat} {D : List Deferred} {l : List Oper} {L : List (Nat × Value)} {H H' : List Ent} (hc : ∀ e, H'.count e ≤ H.count e) (h : Wl P ops Q M w0 n D l L H') : Wl P ops Q M w0 n D l L H := by
 unfold Wl at h ⊢
 exact fun a w hf hs => h a w hf (hs.subc hc)
theorem GivesS.ofC {X : Type} {val : X → Value} {φ : X → Prop} {M : List Nat} {w0 w w' : World} {H H1 : List Ent} {H' : X → List Ent} {v : Value} (hst : St M w0 w H) (hs : St (wrs H) w w' H1) (q : X) (hφ : φ q) (hv : v = val q) (hh : ∀ e, (H' q).count e ≤ H1.count e) : GivesS val φ M w0 H' (.returned v) w' :=
 ⟨q, hφ, by rw [hv], (hst.go hs).subc hh⟩
theorem BadS.ofC {c : List PanicEntry} {M : List Nat} {w0 w w' : World} {H HB H1 : List Ent} (hst : St M w0 w H) (hs : St (wrs H) w w' H1) (hh : ∀ e, HB.count e ≤ H1.count e) : BadS c M w0 HB (.panicked c) w' := ⟨rfl, (hst.go hs).subc hh⟩
noncomputable def oneC (e x : Ent) : Nat := List.count e [x]
theorem cnt_cons (e x : Ent) (l : List Ent) : List.count e (x :: l) = oneC e x + List.count e l := by rw [← List.singleton_append, List.count_append]; rfl
end Go.PB
namespace Go.Proofs.YtbinaeemcidicaaGreatDoor
open Go.PB Go.RowKit
attribute [local irreducible] Go.Calls
def RdX (R : List Ent) (v : Value) (n : Nat) (xs : List Value) : Prop :=
 (∃ p c, v = .slice p 0 c ∧ n = 0) ∨ ∃ b off c arr et fr wr, v = .slice (some ⟨b, off, none⟩) n c ∧ (⟨b, wr, .cells arr et fr⟩ : Ent) ∈ R ∧ n ≤ c ∧ ∀ (j : Nat) u, xs[j]? = some u → arr[off + j]? = some u
theorem RdX.ro {R : List Ent} {v : Value} {n : Nat} {xs : List Value} (h : RdX R v n xs) : RdX (ro R) v n xs := by
 rcases h with h | ⟨b, off, c, arr, et, fr, wr, h1, h2, h3⟩
 ·exact .inl h
 ·exact .inr ⟨b, off, c, arr, et, fr, false, h1, mem_ro h2, h3⟩
theorem RdX.mono {R R' : List Ent} {v : Value} {n : Nat} {xs : List Value} (h : RdX R v n xs) (hR : ∀ p ∈ R, p ∈ R') : RdX R' v n xs := by
 rcases h with h | ⟨b, off, c, arr, et, fr, wr, h1, h2, h3⟩
 ·exact .inl h
 ·exact .inr ⟨b, off, c, arr, et, fr, wr, h1, hR _ h2, h3⟩
theorem RdX.len {R : List Ent} {v : Value} {n : Nat} {xs : List Value} (h : RdX R v n xs) : ∃ p c, v = .slice p n c := by
 rcases h with ⟨p, c, rfl, rfl⟩ | ⟨b, off, c, arr, et, fr, wr, rfl, _⟩
 ·exact ⟨p, c, rfl⟩
 ·exact ⟨_, c, rfl⟩
theorem RdX.pos {R : List Ent} {v : Value} {n : Nat} {xs : List Value} (h : RdX R v n xs) (h0 : 0 < n) : ∃ b off c arr et fr wr, v = .slice (some ⟨b, off, none⟩) n c ∧ (⟨b, wr, .cells arr et fr⟩ : Ent) ∈ R ∧ n ≤ c ∧ ∀ (j : Nat) u, xs[j]? = some u → ∀ o, o = off + j → arr[o]? = some u := by
 rcases h with ⟨p, c, _, rfl⟩ | ⟨b, off, c, arr, et, fr, wr, h1, h2, h3, h4⟩
 ·omega
 ·exact ⟨b, off, c, arr, et, fr, wr, h1, h2, h3, fun j u hu o ho => by rw [ho]; exact h4 j u hu⟩
theorem RdX.own {R : List Ent} {n sz : Nat} {xs : List Value} {o : Ow} {e : TypeId} (h : ownOk n sz xs o) (hm : ∀ p ∈ ownH e o, p ∈ R) : RdX R (ownV n o) n xs := by
 cases o with
 | none => exact .inl ⟨none, 0, by rw [h.1]; rfl, h.1⟩
 | some o =>
  obtain ⟨b, cap, cur⟩ := o
  exact .inr ⟨b, 0, cap, cur, e, (0, 0), true, rfl, hm _ (List.Mem.head _), h.1, fun j u hu => by rw [Nat.zero_add]; exact own_get h hu⟩
def intV (l : List Int) : List Value := l.map fun n => .int .i64 n
theorem intV_get {l : List Int} {j : Nat} (h : j < l.length) : (intV l)[j]? = some (.int .i64 (l.getD j 0)) := by
 unfold intV
 simp [h, List.getD]
def strV (l : List (List UInt8)) : List Value := l.map st
theorem strV_get {l : List (List UInt8)} {j : Nat} (h : j < l.length) : (strV l)[j]? = some (st (l.getD j [])) := by
 unfold strV
 simp [h, List.getD]
end Go.Proofs.YtbinaeemcidicaaGreatDoor
