/- Walks: where Parse is wrong, of a text's tokens or of the first ones. No condition but the cell that the library's search reads. -/
import Derived.Test.YtbinaeemcidicaaZQN
import Derived.Test.YtbinaeemcidicaaZCut
namespace Go.PB
open Go.RowKit
section
variable {P : Program} {M : List Nat} {w0 : World} {n : Nat} {D : List Deferred} {L : List (Nat × Value)} {H : List Ent}
theorem ev_sliceG {t : TypeId} {x : Operand} {oty e : TypeId} {sz m c k : Nat} {p : Option Addr} {hi : Operand} {kk : IntKind} {j : Int} (ht : Sl P t e) (hs : Sz P e sz) (hx : evo L x = some (.slice p m c)) (hhi : evo L hi = some (.int kk j)) (hj : j = (k : Nat)) (hb : k ≤ c) (h0 : p = none → k = 0) :
    Ev P M w0 n D L H (.slice t x none (some hi) none) oty (.slice p k c) := by
  cases p with
  | some b => exact ev_sliceHi ht hs hx hhi hj hb
  | none =>
    have ht' : P.underlying t = some (.slice e) := ht
    have := h0 rfl
    subst this hj
    unfold Ev
    intro a w hf _ dst pos after g
    simp [execOp, hf.eval hx, hf.eval hhi, Instr.sliceAt, Instr.slice, Instr.sliceBounds, Instr.sliceBound, asIntOf, run_underlying ht', run_sizeOf hs]
end
end Go.PB
namespace Go.Proofs.Ytbinaeemcidicaa
open Go.PB Go.RowKit
attribute [local irreducible] Go.Calls
/-- what Parse tells is wrong, and where -/
def spotO (L : List Ti) (o : Option (List Pt)) (l' : List Ti) : Int × Int := match o with
  | none => (220, endP L (L.length - l'.length))
  | some ps => match (putP (.mk 1 [] [] 0 0 ps) 0 0 none).2 with
    | none => (0, 0)
    | some y => (3, y)
abbrev spotR (e a : Int) (M : List Nat) (w0 : World) (A : List Ent) : Ending → World → Prop := GivesS (fun x : Value => .tuple #[.agg [x].toArray, .agg [.int .i64 e, .int .i64 a].toArray]) (fun x => x.oneCell' = true) M w0 fun _ => A
theorem par_spot {s : List UInt8} {T : List Tk} {p f : Nat} (h : lexS s = (T, 0, p)) {L l' : List Ti} (hL : ∀ t ∈ L, t ∈ T.map tiOf) (hn : L.length ≤ 2048) {M : List Nat} {w0 w : World} {A : List Ent} {lv : Value} {o : Option (List Pt)}
    (e : pF f (.shad []) L = some (o, l')) {er a : Int} (hsp : spotO L o l' = (er, a)) (hst : St M w0 w A) (hx : MxE A) (hv : RdX A lv L.length (tisC L)) : Calls Try.prog 14 #[lv] w (spotR er a M w0 A) := by
  have hp := par_lex h hL hn hst hx hv e
  refine hp.mono fun e2 w' hR => ?_
  unfold ParR at hR
  unfold spotO at hsp
  cases o with
  | none =>
    dsimp only at hR hsp
    obtain ⟨_, _, he, hs⟩ := hR
    cases hsp
    exact ⟨.slice none 0 0, rfl, he, hs⟩
  | some ps =>
    dsimp only at hR hsp
    obtain ⟨⟨ns, sp⟩, hrr⟩ : ∃ rr, putP (.mk 1 [] [] 0 0 ps) 0 0 none = rr := ⟨_, rfl⟩
    rw [hrr] at hR hsp
    cases sp with
    | none =>
      cases hsp
      obtain ⟨x, _, he, hs⟩ := hR
      exact ⟨_, own_oneF _ _, he, hs.subc (by intro e; simp only [List.count_append]; omega)⟩
    | some y =>
      cases hsp
      obtain ⟨x, _, he, hs⟩ := hR
      exact ⟨.slice none 0 0, rfl, he, hs⟩
theorem RdX.preG {R : List Ent} {p : Option Addr} {n c k : Nat} {L : List Ti} (h : RdX R (.slice p n c) n (tisC L)) (hn : n = L.length) (hk : k ≤ n) : RdX R (.slice p k c) (L.take k).length (tisC (L.take k)) := by
  rcases h with ⟨p', c', h1, h2⟩ | ⟨b', off', c', arr, et, fr, wr, h1, h2, h3, h4⟩
  · have hk0 : k = 0 := by omega
    subst hk0
    exact .inl ⟨_, _, rfl, rfl⟩
  · cases h1
    exact RdX.pre (.inr ⟨b', off', _, arr, et, fr, wr, rfl, h2, h3, h4⟩) hn hk
theorem RdX.room {R : List Ent} {p : Option Addr} {n c : Nat} {xs : List Value} (h : RdX R (.slice p n c) n xs) : (n ≤ c ∨ n = 0) ∧ (p = none → n = 0) := by
  rcases h with ⟨p', c', h1, h2⟩ | ⟨b', off', c', arr, et, fr, wr, h1, h2, h3, h4⟩
  · exact ⟨.inr h2, fun _ => h2⟩
  · cases h1
    exact ⟨.inl h3, fun e => by cases e⟩
theorem own_tok {T : List Tk} {o : Ow} {H : List Ent} (h : ownOk T.length 5 (tksC T) o) (hm : ∀ p ∈ ownH 41 o, p ∈ H) : RdX H (ownV T.length o) T.length (tisC (T.map tiOf)) := by
  rw [tisC_of]
  exact RdX.own h hm
theorem shad_nil {f : Nat} {o : Option (List Pt)} {r : List Ti} (h : pF f (.shad []) [] = some (o, r)) : o = some [] ∧ r = [] := by
  cases f with
  | zero => rw [pF] at h; cases h
  | succ f =>
    rw [pF, if_pos rfl] at h
    cases h
    exact ⟨rfl, rfl⟩
theorem spot_some {L : List Ti} {ps : List Pt} {l' : List Ti} (h : hgtL ps ≤ 32) : spotO L (some ps) l' = (0, 0) := by
  unfold spotO
  dsimp only
  rw [put_none.2 h]
theorem spot_zero {L : List Ti} {o : Option (List Pt)} {l' : List Ti} {a : Int} (h : spotO L o l' = (0, a)) : ∃ ps, o = some ps ∧ hgtL ps ≤ 32 := by
  unfold spotO at h
  cases o with
  | none => cases h
  | some ps =>
    dsimp only at h
    obtain ⟨q, hq⟩ : ∃ q, (putP (.mk 1 [] [] 0 0 ps) 0 0 none).2 = q := ⟨_, rfl⟩
    rw [hq] at h
    cases q with
    | none => exact ⟨ps, rfl, put_none.1 hq⟩
    | some y => cases h
end Go.Proofs.Ytbinaeemcidicaa
