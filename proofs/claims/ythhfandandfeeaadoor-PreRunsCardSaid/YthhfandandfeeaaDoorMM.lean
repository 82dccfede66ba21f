/- Calls on a machine within a run's memory. No condition but the listed table's values. -/
import Derived.Test.YthhfandandfeeaaDoorS4
namespace Go.PB
open Go.RowKit
theorem GivesS.perm {X : Type} {val : X → Value} {φ : X → Prop} {A B : X → List Ent} {M : List Nat} {w0 w' : World} {e : Ending} (h : GivesS val φ M w0 A e w') (hp : ∀ q, (A q).Perm (B q)) : GivesS val φ M w0 B e w' := by
  obtain ⟨q, hq, he, hx⟩ := h
  exact ⟨q, hq, he, hx.perm (hp q)⟩
theorem ownH_wr {e : TypeId} {o : Ow} : ∀ p ∈ ownH e o, p.wr = true := fun p hp => by
  cases o with
  | none => cases hp
  | some o =>
    obtain ⟨b, c, a⟩ := o
    simp only [ownH, List.mem_singleton] at hp
    rw [hp]
theorem ro_of {A1 A2 R O O' : List Ent} (h1 : ∀ p ∈ A2, p.wr = true) (h2 : ∀ p ∈ O', p.wr = true) : ∀ p ∈ A2 ++ (R ++ O'), p.wr = false → ∃ a ∈ A1 ++ (R ++ O), a.b = p.b := fun p hp hw => by
  rcases List.mem_append.1 hp with hp | hp
  · rw [h1 p hp] at hw
    cases hw
  · rcases List.mem_append.1 hp with hp | hp
    · exact ⟨p, List.mem_append_right _ (List.mem_append_left _ hp), rfl⟩
    · rw [h2 p hp] at hw
      cases hw
end Go.PB
namespace Go.Proofs.YthhfandandfeeaaDoor
open Go.PB Go.RowKit
attribute [local irreducible] Go.Calls
theorem dirC {mb tb C : Nat} {ov : Value} {d : Int} {V : Wds} {tab : Tab} {P : List Pt} {po : Ow} {v : Value} {l : List Tk} {first : Bool} {R O : List Ent} {sp : Ent} {M : List Nat} {w0 w : World}
    (hV : WdAt R tab V) (hG : Glob R) (hv : RdE R v l) (hlen : l.length ≤ 2048) (hlt : ∀ t ∈ l, t.t.length ≤ 8192) (hpo : ownOk P.length 3 (ptsC P) po) (hP : P.length ≤ 100000)
    (hst : St M w0 w (sp :: ⟨mb, true, mrow tb (ownV P.length po) ov d⟩ :: ⟨tb, true, mobj tab C⟩ :: ((R ++ ownH 71 po) ++ O))) :
    Calls Tryd.prog 21 #[ptr mb, v, .bool first] w (GivesS (fun q : DirQ => .bool q.b) (fun q => DirR R q (dirS V P first l)) M w0
      (fun q => sp :: ⟨mb, true, mrow tb (ownV q.P.length q.o) ov d⟩ :: ⟨tb, true, mobj q.tab q.C⟩ :: ((R ++ ownH 71 q.o) ++ O))) := by
  have h1 : St M w0 w ((⟨mb, true, mrow tb (ownV P.length po) ov d⟩ :: ⟨tb, true, mobj tab C⟩ :: (R ++ ownH 71 po)) ++ (sp :: O)) := hst.perm (List.perm_middle (l₁ := ⟨mb, true, mrow tb (ownV P.length po) ov d⟩ :: ⟨tb, true, mobj tab C⟩ :: (R ++ ownH 71 po)) (l₂ := O)).symm
  have h2 := direct_ok (first := first) hV hG hv hlen hlt hpo hP (h1.sub (List.sublist_append_left _ _)).fromHere
  refine (GivesS.frame h1 h2 fun q => ?_).mono fun e w' h => GivesS.perm h fun q => ?_
  · exact ro_of (A1 := [⟨mb, true, mrow tb (ownV P.length po) ov d⟩, ⟨tb, true, mobj tab C⟩]) (A2 := [⟨mb, true, mrow tb (ownV q.P.length q.o) ov d⟩, ⟨tb, true, mobj q.tab q.C⟩]) (R := R) (O := ownH 71 po) (O' := ownH 71 q.o) (by simp) ownH_wr
  · exact List.perm_middle (l₁ := ⟨mb, true, mrow tb (ownV q.P.length q.o) ov d⟩ :: ⟨tb, true, mobj q.tab q.C⟩ :: (R ++ ownH 71 q.o)) (l₂ := O)
theorem perm_put (m t s k : Ent) (R P O : List Ent) : (k :: s :: m :: t :: ((R ++ P) ++ O)).Perm ((m :: ((t :: R) ++ O)) ++ (k :: s :: P)) := by
  have h1 : ((R ++ P) ++ O).Perm ((R ++ O) ++ P) := by
    rw [List.append_assoc, List.append_assoc]
    exact List.Perm.append_left R List.perm_append_comm
  refine (((h1.cons t).cons m).cons s |>.cons k).trans ?_
  have h2 := List.perm_middle (a := s) (l₁ := m :: t :: (R ++ O)) (l₂ := P)
  have h3 := List.perm_middle (a := k) (l₁ := m :: t :: (R ++ O)) (l₂ := s :: P)
  exact ((h2.symm).cons k).trans h3.symm
theorem putC {mb tb C : Nat} {pv : Value} {V : Wds} {tab : Tab} {out : List Tk} {oo : Ow} {t : Tk} {d0 : Int} {R P : List Ent} {sp tk : Ent} {M : List Nat} {w0 w : World} (hln : t.ln ≤ 10000)
    (hV : WdAt R tab V) (hG : Glob R) (ho : ownOk out.length 5 (tksC out) oo) (hol : out.length ≤ 2048)
    (hst : St M w0 w (tk :: sp :: ⟨mb, true, mrow tb pv (ownV out.length oo) d0⟩ :: ⟨tb, true, mobj tab C⟩ :: ((R ++ P) ++ ownH 35 oo))) :
    Calls Tryd.prog 23 #[ptr mb, .agg (tkC t).toArray] w
      (GivesS (fun q : PutQ => .bool q.b) (fun q => ownOk (out ++ q.x).length 5 (tksC (out ++ q.x)) q.o ∧ Res (expF V t.at_ t.ln 2050 [] 0 t) out.length q) M w0
        (fun q => tk :: sp :: ⟨mb, true, mrow tb pv (ownV (out ++ q.x).length q.o) (q.d : Nat)⟩ :: ⟨tb, true, mobj tab C⟩ :: ((R ++ P) ++ ownH 35 q.o))) := by
  have h1 := hst.perm (perm_put _ _ _ _ _ _ _)
  have h2 := put_ok (R := ⟨tb, true, mobj tab C⟩ :: R) hln (hV.mono fun p hp => List.Mem.tail _ hp) (List.Mem.head _) (fun hs => hG (hs.sub (SubH.drop (List.Sublist.refl _)))) ho hol (h1.sub (List.sublist_append_left _ _)).fromHere
  refine (GivesS.frame h1 h2 fun q => ?_).mono fun e w' h => GivesS.perm h fun q => (perm_put _ _ _ _ _ _ _).symm
  exact ro_of (A1 := [⟨mb, true, mrow tb pv (ownV out.length oo) d0⟩]) (A2 := [⟨mb, true, mrow tb pv (ownV (out ++ q.x).length q.o) (q.d : Nat)⟩]) (R := ⟨tb, true, mobj tab C⟩ :: R) (O := ownH 35 oo) (O' := ownH 35 q.o) (by simp) ownH_wr
theorem lexP_of {x : List UInt8} {T : List Tk} {e : Int} {p : Nat} (hl : x.length ≤ 9223372036854775807) (h : lexS x = (T, e, p)) (w : World) (hm : Mx w) :
    Calls Tryd.prog 15 #[st x] w (Gives (fun o : Ow => .tuple #[ownV T.length o, spotV e (p : Nat)]) (fun o => ownOk T.length 5 (tksC T) o) w (fun _ => []) (owN 35)) := by
  have := lex_ok x hl w hm
  rw [h] at this
  exact this
theorem rows_at {Z : Zr} {L : List (List Tk)} {oz : Ow} {n i : Nat} (hZ : Z.map (·.1) = L.map (List.map tiOf)) (hok : okZ Z n) (hoz : ownOk Z.length 1 (valsZ Z) oz) (hi : i < L.length) :
    ∃ ob ocap ocur o, oz = some (ob, ocap, ocur) ∧ ocur[i]? = some (ownV (L.getD i []).length o) ∧ RdE (blksZ Z) (ownV (L.getD i []).length o) (L.getD i []) := by
  have hlen : Z.length = L.length := by simpa using congrArg List.length hZ
  obtain ⟨ob, ocap, ocur, rfl, q1, q2, q3⟩ := own_some hoz (by omega)
  obtain ⟨⟨r, o⟩, hro⟩ : ∃ p, Z[i]? = some p := by
    rw [List.getElem?_eq_getElem (by omega)]
    exact ⟨_, rfl⟩
  have hr : r = (L.getD i []).map tiOf := by
    have := congrArg (·[i]?) hZ
    simp only [List.getElem?_map, hro, Option.map_some] at this
    rw [List.getElem?_eq_getElem hi] at this
    simp only [Option.map_some, Option.some.injEq] at this
    rw [this]
    simp [List.getD, hi]
  have hmem := List.mem_of_getElem? hro
  have h1 := (hok _ hmem).1
  dsimp only at h1
  rw [hr, List.length_map, tisC_of] at h1
  refine ⟨ob, ocap, ocur, o, rfl, q3 i _ ?_, RdE.own h1 fun p hp => List.mem_flatMap.2 ⟨_, hmem, hp⟩⟩
  unfold valsZ
  rw [List.getElem?_map, hro, Option.map_some, hr, List.length_map]
end Go.Proofs.YthhfandandfeeaaDoor
