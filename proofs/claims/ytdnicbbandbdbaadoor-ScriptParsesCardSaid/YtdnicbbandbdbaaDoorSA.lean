/- Values of scripts in memory: what may be read of them. No condition. -/
import Derived.Test.YtdnicbbandbdbaaDoorTypes
import Derived.Test.YtdnicbbandbdbaaDoorEB
import Derived.Test.YtdnicbbandbdbaaDoorEQ
import Derived.Test.YtdnicbbandbdbaaDoorQ6
namespace Go.PB
open Go.RowKit
def ro (H : List Ent) : List Ent := H.map fun p => ⟨p.b, false, p.o⟩
theorem mem_ro {H : List Ent} {b : Nat} {wr : Bool} {o : Obj} (h : (⟨b, wr, o⟩ : Ent) ∈ H) : (⟨b, false, o⟩ : Ent) ∈ ro H := List.mem_map.2 ⟨_, h, rfl⟩
/-- what is known may be read -/
theorem St.reads {M : List Nat} {w0 w : World} {H : List Ent} (h : St M w0 w H) : St [] w w (ro H) := by
  refine ⟨rfl, rfl, rfl, Nat.le_refl _, fun _ _ _ => rfl, fun p hp => ?_, ?_⟩
  · obtain ⟨q, hq, rfl⟩ := List.mem_map.1 hp
    exact ⟨(h.own q hq).1, fun e => by cases e⟩
  · unfold ro
    rw [List.pairwise_map]
    exact List.Pairwise.imp (fun _ _ => ⟨rfl, rfl⟩) h.apart
end Go.PB
namespace Go.Proofs.YtdnicbbandbdbaaDoor
open Go.PB Go.RowKit
attribute [local irreducible] Go.Calls
abbrev st (l : List UInt8) : Value := .string ⟨l.toArray⟩
abbrev by8 (c : UInt8) : Value := .int .u8 (c.toNat : Int)
abbrev ptr (b : Nat) : Value := .pointer (some ⟨b, 0, none⟩)
abbrev fnv (f : Nat) : Value := .func (.func f) #[] #[]
theorem Give.to {v u : Value} {w : World} {f : FuncId} {args : Array Value} (h : Calls Tryd.prog f args w (Give v w)) (e : v = u) : Calls Tryd.prog f args w (Give u w) := e ▸ h
theorem ownV_one (m : Nat) (o : Ow) : (ownV m o).oneCell' = true := by cases o <;> rfl
theorem own_get {n sz : Nat} {xs : List Value} {b cap : Nat} {cur : Array Value} (h : ownOk n sz xs (some (b, cap, cur))) {j : Nat} {v : Value} (hv : xs[j]? = some v) : cur[j]? = some v := by
  obtain ⟨_, _, _, h4, _⟩ := h
  rw [← h4, List.getElem?_take] at hv
  split at hv
  · simpa using hv
  · cases hv
theorem ownH_none (e : TypeId) : ownH e none = [] := rfl
theorem ownH_some (e : TypeId) (b cap : Nat) (cur : Array Value) : ownH e (some (b, cap, cur)) = [⟨b, true, .cells cur e (0, 0)⟩] := rfl
theorem ownV_none (n : Nat) : ownV n none = .slice none 0 0 := rfl
theorem ownV_some (n b cap : Nat) (cur : Array Value) : ownV n (some (b, cap, cur)) = .slice (some ⟨b, 0, none⟩) n cap := rfl
theorem own_some {n sz : Nat} {xs : List Value} {o : Ow} (h : ownOk n sz xs o) (hn : 0 < n) : ∃ b cap cur, o = some (b, cap, cur) ∧ n ≤ cap ∧ cur.size = cap * sz ∧ ∀ (j : Nat) (v : Value), xs[j]? = some v → cur[j]? = some v := by
  cases o with
  | none => have := h.1; omega
  | some o =>
    obtain ⟨b, cap, cur⟩ := o
    exact ⟨b, cap, cur, rfl, h.1, h.2.2.1, fun j v hv => own_get h hv⟩
/-- what a function of its own has made -/
def owN (e : TypeId) : Ow → List (Nat × Obj)
  | none => []
  | some o => [(o.1, .cells o.2.2 e (0, 0))]
theorem ents_owN (e : TypeId) (o : Ow) : ents (owN e o) = ownH e o := by cases o <;> rfl
/-- a slice whose cells may be read in blocks that are known -/
def RdX (R : List Ent) (v : Value) (n : Nat) (xs : List Value) : Prop :=
  (∃ p c, v = .slice p 0 c ∧ n = 0) ∨ ∃ b off c arr et fr wr, v = .slice (some ⟨b, off, none⟩) n c ∧ (⟨b, wr, .cells arr et fr⟩ : Ent) ∈ R ∧ n ≤ c ∧ ∀ (j : Nat) u, xs[j]? = some u → arr[off + j]? = some u
theorem RdX.ro {R : List Ent} {v : Value} {n : Nat} {xs : List Value} (h : RdX R v n xs) : RdX (ro R) v n xs := by
  rcases h with h | ⟨b, off, c, arr, et, fr, wr, h1, h2, h3⟩
  · exact .inl h
  · exact .inr ⟨b, off, c, arr, et, fr, false, h1, mem_ro h2, h3⟩
theorem RdX.mono {R R' : List Ent} {v : Value} {n : Nat} {xs : List Value} (h : RdX R v n xs) (hR : ∀ p ∈ R, p ∈ R') : RdX R' v n xs := by
  rcases h with h | ⟨b, off, c, arr, et, fr, wr, h1, h2, h3⟩
  · exact .inl h
  · exact .inr ⟨b, off, c, arr, et, fr, wr, h1, hR _ h2, h3⟩
theorem RdX.len {R : List Ent} {v : Value} {n : Nat} {xs : List Value} (h : RdX R v n xs) : ∃ p c, v = .slice p n c := by
  rcases h with ⟨p, c, rfl, rfl⟩ | ⟨b, off, c, arr, et, fr, wr, rfl, _⟩
  · exact ⟨p, c, rfl⟩
  · exact ⟨_, c, rfl⟩
theorem RdX.pos {R : List Ent} {v : Value} {n : Nat} {xs : List Value} (h : RdX R v n xs) (h0 : 0 < n) : ∃ b off c arr et fr wr, v = .slice (some ⟨b, off, none⟩) n c ∧ (⟨b, wr, .cells arr et fr⟩ : Ent) ∈ R ∧ n ≤ c ∧ ∀ (j : Nat) u, xs[j]? = some u → ∀ o, o = off + j → arr[o]? = some u := by
  rcases h with ⟨p, c, _, rfl⟩ | ⟨b, off, c, arr, et, fr, wr, h1, h2, h3, h4⟩
  · omega
  · exact ⟨b, off, c, arr, et, fr, wr, h1, h2, h3, fun j u hu o ho => by rw [ho]; exact h4 j u hu⟩
theorem RdX.own {R : List Ent} {n sz : Nat} {xs : List Value} {o : Ow} {e : TypeId} (h : ownOk n sz xs o) (hm : ∀ p ∈ ownH e o, p ∈ R) : RdX R (ownV n o) n xs := by
  cases o with
  | none => exact .inl ⟨none, 0, by rw [h.1]; rfl, h.1⟩
  | some o =>
    obtain ⟨b, cap, cur⟩ := o
    exact .inr ⟨b, 0, cap, cur, e, (0, 0), true, rfl, hm _ (List.Mem.head _), h.1, fun j u hu => by rw [Nat.zero_add]; exact own_get h hu⟩
/-- fewer of them -/
theorem RdX.few {R : List Ent} {b off c m n : Nat} {xs : List Value} (h : RdX R (.slice (some ⟨b, off, none⟩) n c) n xs) (hm : m ≤ n) : RdX R (.slice (some ⟨b, off, none⟩) m c) m xs := by
  rcases h with ⟨p, k, h1, h2⟩ | ⟨b', off', c', arr, et, fr, wr, h1, h2, h3, h4⟩
  · exact .inl ⟨_, _, by rw [show m = 0 by omega], by omega⟩
  · cases h1
    exact .inr ⟨b, off, c, arr, et, fr, wr, rfl, h2, by omega, h4⟩
def intV (l : List Int) : List Value := l.map fun n => .int .i64 n
theorem intV_get {l : List Int} {j : Nat} (h : j < l.length) : (intV l)[j]? = some (.int .i64 (l.getD j 0)) := by
  unfold intV
  simp [List.getElem?_map, h, List.getD]
theorem bytV_get {l : List UInt8} {j : Nat} (h : j < l.length) : (bytV l)[j]? = some (.int .u8 ((l.getD j 0).toNat : Int)) := by
  unfold bytV
  simp [List.getElem?_map, h, List.getD]
def strV (l : List (List UInt8)) : List Value := l.map st
theorem strV_get {l : List (List UInt8)} {j : Nat} (h : j < l.length) : (strV l)[j]? = some (st (l.getD j [])) := by
  unfold strV
  simp [List.getElem?_map, h, List.getD]
/-- a command, with the slices that it has -/
structure Cv where
  c : Cl
  iv : Value
  bv : Value
def cl0 : Cl := ⟨0, [], [], []⟩
def cv0 : Cv := ⟨cl0, .slice none 0 0, .slice none 0 0⟩
def cvC (y : Cv) : List Value := [.int .i64 y.c.op, y.iv, y.bv, st y.c.tx]
def cvsC (l : List Cv) : List Value := l.flatMap cvC
def CvOk (R : List Ent) (y : Cv) : Prop := RdX R y.iv y.c.is.length (intV y.c.is) ∧ RdX R y.bv y.c.bs.length (bytV y.c.bs)
theorem cvsC_get : ∀ {l : List Cv} {j i : Nat} {v : Value}, j < l.length → (cvC (l.getD j cv0))[i]? = some v → (cvsC l)[j * 4 + i]? = some v
  | [], j, _, _, h, _ => by simp at h
  | t :: l, 0, i, v, _, h => by
    rw [show cvsC (t :: l) = cvC t ++ cvsC l from rfl, Nat.zero_mul, Nat.zero_add]
    simp only [List.getD_cons_zero] at h
    have hi : i < (cvC t).length := (List.getElem?_eq_some_iff.1 h).1
    rw [List.getElem?_append_left hi]
    exact h
  | t :: l, j + 1, i, v, h, h2 => by
    rw [show cvsC (t :: l) = cvC t ++ cvsC l from rfl]
    have h4 : (cvC t).length = 4 := rfl
    rw [List.getElem?_append_right (by omega), show (j + 1) * 4 + i - (cvC t).length = j * 4 + i by omega]
    exact cvsC_get (l := l) (by simpa using h) (by simpa using h2)
theorem cvsC_len (l : List Cv) : (cvsC l).length = l.length * 4 := by
  induction l with
  | nil => rfl
  | cons t l ih => rw [show cvsC (t :: l) = cvC t ++ cvsC l from rfl, List.length_append, ih]; simp [cvC]; omega
/-- a row of commands -/
def RdC (R : List Ent) (v : Value) (l : List Cv) : Prop := RdX R v l.length (cvsC l) ∧ ∀ y ∈ l, CvOk R y
theorem CvOk.mono {R R' : List Ent} {y : Cv} (h : CvOk R y) (hR : ∀ p ∈ R, p ∈ R') : CvOk R' y := ⟨h.1.mono hR, h.2.mono hR⟩
theorem CvOk.ro {R : List Ent} {y : Cv} (h : CvOk R y) : CvOk (ro R) y := ⟨h.1.ro, h.2.ro⟩
theorem RdC.mono {R R' : List Ent} {v : Value} {l : List Cv} (h : RdC R v l) (hR : ∀ p ∈ R, p ∈ R') : RdC R' v l := ⟨h.1.mono hR, fun y hy => (h.2 y hy).mono hR⟩
theorem RdC.ro {R : List Ent} {v : Value} {l : List Cv} (h : RdC R v l) : RdC (ro R) v l := ⟨h.1.ro, fun y hy => (h.2 y hy).ro⟩
theorem getD_mem {α : Type} {l : List α} {j : Nat} {d : α} (h : j < l.length) : l.getD j d ∈ l := by
  rw [List.getD_eq_getElem?_getD, List.getElem?_eq_getElem h]
  exact List.getElem_mem _
/-- a command's value -/
abbrev cvV (y : Cv) : Value := .agg (cvC y).toArray
abbrev scV (w h : Int) (cv : Value) : Value := .agg #[.int .i64 w, .int .i64 h, cv]
abbrev clsOf (l : List Cv) : List Cl := l.map (·.c)
end Go.Proofs.YtdnicbbandbdbaaDoor
