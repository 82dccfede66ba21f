/- Walks: the document's reader: what stands alone, all of it. No condition. -/
import Derived.Test.YtbinaeemcidicaaGreatZWH
set_option maxHeartbeats 16000000
namespace Go.Proofs.YtbinaeemcidicaaGreat
open Go.PB Go.RowKit
attribute [local irreducible] Go.Calls
theorem rn_v1 {b : Nat} {kd : Int} {ty tx : List UInt8} {nm pl : Int} {o : Ow} {n : Tn} : rnH (.mk b kd ty tx nm pl o [n]) = ⟨b, true, rnO kd ty tx nm pl (ownV (0 + 1) o)⟩ :: (ownH 55 o ++ rnH n) := by
 rw [rnH, rnsH1]
 rfl
theorem rn_v0 {b : Nat} {kd : Int} {ty tx : List UInt8} {nm pl : Int} : rnH (.mk b kd ty tx nm pl none []) = [⟨b, true, rnO kd ty tx nm pl (.slice none 0 0)⟩] := by
 rw [rnH, rnsH]
 rfl
theorem tn_v1 {b : Nat} {kd : Int} {ty tx : List UInt8} {nm pl : Int} {o : Ow} {n : Tn} (h : tnOk n) (ho : ownOk (0 + 1) 1 ([] ++ [ptr n.b]) o) : tnOk (.mk b kd ty tx nm pl o [n]) := by
 rw [tnOk]
 exact ⟨ho, tnsOk1 h⟩
theorem tn_v0 {b : Nat} {kd : Int} {ty tx : List UInt8} {nm pl : Int} : tnOk (.mk b kd ty tx nm pl none []) := by
 rw [tnOk, tnsOk]
 exact ⟨⟨rfl, rfl⟩, trivial⟩
theorem own_snoc {ts : List Tn} {n : Tn} {o : Ow} (h : ownOk (ts.length + 1) 1 (ptrs ts ++ [ptr n.b]) o) : ownOk (ts ++ [n]).length 1 (ptrs (ts ++ [n])) o := by
 rw [len_snocR, show ptrs (ts ++ [n]) = ptrs ts ++ [ptr n.b] by simp]
 exact h
theorem tnP_v1 {b : Nat} {kd : Int} {ty tx : List UInt8} {nm pl : Int} {o : Ow} {n : Tn} : tnP (.mk b kd ty tx nm pl o [n]) = .mk kd ty tx nm pl [tnP n] := by rw [tnP, tnsP1]
theorem tnP_v0 {b : Nat} {kd : Int} {ty tx : List UInt8} {nm pl : Int} : tnP (.mk b kd ty tx nm pl none []) = .mk kd ty tx nm pl [] := by rw [tnP, tnsP]
end Go.Proofs.YtbinaeemcidicaaGreat
