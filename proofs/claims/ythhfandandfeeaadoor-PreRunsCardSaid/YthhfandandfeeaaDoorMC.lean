/- Walks: an int as a token; what of the world's tables stays known. No condition but the listed table's values. -/
import Derived.Test.YthhfandandfeeaaDoorMB
import Derived.Test.YthhfandandfeeaaDoorLB
import Derived.Test.YthhfandandfeeaaDoorN1
namespace Go.Proofs.YthhfandandfeeaaDoor
open Go.PB Go.RowKit
attribute [local irreducible] Go.Calls
/-- the listed table of powers of ten, in a world -/
def Pows (w : World) : Prop := Lib.TabIs Tryd.prog w ((Rows.preRunsRow.laid.map (·.1)).getD 2 default) .u64 Lib.pow10Tab
theorem Pows.st {w0 w : World} {H : List Ent} (hs : St [] w0 w H) (h : Pows w0) : Pows w := by
  unfold Pows Lib.TabIs World.var? at h ⊢
  obtain ⟨g, hg, hv⟩ := Option.bind_eq_some_iff.1 h
  rw [hg, Option.bind_some]
  have hlt : g < w0.heap.size := by
    refine Nat.lt_of_not_le fun hle => ?_
    rw [Array.getElem?_eq_none hle] at hv
    cases hv
  rw [hs.frame g hlt (by simp)]
  exact hv
/-- what is known tells of the library's variables -/
def Glob (R : List Ent) : Prop := ∀ {M : List Nat} {w0 w : World}, St M w0 w R → Mx w ∧ Pows w
theorem Glob.sub {R H : List Ent} {M : List Nat} {w0 w : World} (h : Glob R) (hs : St M w0 w H) (hR : SubH R H) : Mx w ∧ Pows w := h (hs.sub hR)
theorem glob_start {w : World} (hm : Mx w) (hp : Pows w) : ∃ R, St [] w w R ∧ Glob R := by
  obtain ⟨m, hm⟩ := hm
  unfold Pows Lib.TabIs World.var? at hp
  obtain ⟨g, hg, hv⟩ := Option.bind_eq_some_iff.1 hp
  have h0 : ∃ o, w.heap[0]? = some o := by
    unfold World.cell? at hm
    cases h : w.heap[0]? with
    | none => simp [h] at hm
    | some o => exact ⟨o, rfl⟩
  obtain ⟨o, ho⟩ := h0
  have hg' : ∃ o, w.heap[g]? = some o := by
    cases h : w.heap[g]? with
    | none => rw [h] at hv; cases hv
    | some o => exact ⟨o, rfl⟩
  obtain ⟨o', ho'⟩ := hg'
  refine ⟨[⟨0, false, o⟩, ⟨g, false, o'⟩], ⟨rfl, rfl, rfl, Nat.le_refl _, fun _ _ _ => rfl, ?_, ?_⟩, ?_⟩
  · intro p hp
    simp only [List.mem_cons, List.not_mem_nil, or_false] at hp
    rcases hp with rfl | rfl
    · exact ⟨ho, fun e => by cases e⟩
    · exact ⟨ho', fun e => by cases e⟩
  · simp
  · intro M w0 w1 hs
    have e0 := hs.get (List.Mem.head _)
    have e1 := hs.get (List.Mem.tail _ (List.Mem.head _))
    refine ⟨⟨m, ?_⟩, ?_⟩
    · unfold World.cell? at hm ⊢
      rw [ho] at hm
      rw [e0]
      exact hm
    · unfold Pows Lib.TabIs World.var?
      rw [hg, Option.bind_some]
      rw [ho'] at hv
      rw [e1]
      exact hv
theorem itoa_ok (k : Nat) (hk : k < 9223372036854775808) (w : World) (h : Pows w) : Calls Tryd.prog 34 #[.int .i64 (k : Nat)] w (Give (st (Lib.decDigits k)) w) := by
  refine (Tryd.strconv_Itoa (k : Int) (by omega) (by omega) w h).mono ?_
  rintro e w' ⟨rfl, n, os, rfl⟩
  refine ⟨?_, ?_⟩
  · unfold Lib.itoa
    rw [if_neg (by omega)]
    rfl
  · refine ⟨rfl, rfl, rfl, by simp [Sort.grow], fun k hk _ => ?_, by simp, by simp, .nil⟩
    have : k < (w.drewN n).heap.size := hk
    simp [Sort.grow, Array.getElem?_append]
    intro hle; omega
theorem pnumber_ok {m : Int} (n : Nat) (hmn : m = n) (h1 : 1 ≤ n) (h2 : n ≤ 20000) (w : World) (hm : Mx w) (hp : Pows w) :
    Calls Tryd.prog 20 #[.int .i64 m] w (Gives (fun o : Ow => ownV 1 o) (fun o => ownOk 1 5 (tksC [numT n]) o) w (fun _ => []) (owN 35)) := by
  subst hmn
  refine calls_of_W (vs := [.int .i64 (n : Nat)]) Tryd.func20 rfl Tryd.ntmps20 (Nat.le_of_ble_eq_true rfl) (St.nil w []) ?_
  simp only [argL]
  have hl := dd_len n
  have lxg := lexG_of (x := Lib.decDigits n) (by omega) (num_lex h1 h2)
  repeat' (first | (apply gL; first | (apply Wl.ev rfl rfl; (focus (first | exact ev_move rfl | exact ev_assign rfl | exact ev_extract rfl rfl))) | ((show Wl _ _ _ _ _ _ _ (⟨_, .call ⟨.value (.func 34), _, _⟩, _, _, _, _⟩ :: _) _ _); refine wl_call0 rfl rfl has34 rfl (fun w hs => itoa_ok n (by omega) w (hp.st hs)) ?_) | ((show Wl _ _ _ _ _ _ _ (⟨_, .call ⟨.value (.func 15), _, _⟩, _, _, _, _⟩ :: _) _ _); refine wl_callX rfl rfl has15 rfl (fun w hs => lxg w (hm.st hs (by simp)) ) ?_; intro oz hoz; simp only [ents_owN, List.cons_append, List.nil_append, List.append_nil, List.length_singleton] at hoz ⊢; try simp only [ents, List.map_cons, List.map_nil, List.cons_append, List.nil_append]) | apply Wl.nil | (refine Wl.skip0 rfl ?_) | (refine wl_alloc rfl rfl (zeroT rfl) ?_; intro b) | (refine wl_storeWhole rfl rfl rfl (szT rfl) rfl (by repeat (first | exact Upd.here | apply Upd.there)) (by rfl) ?_) | (refine wl_store1 rfl rfl rfl rfl (szT rfl) (by repeat (first | exact Upd.here | apply Upd.there)) (by first | decide | (simp; done)) ?_; try simp only [List.set])) | (apply gQ; first | (apply Wq.ev rfl rfl; (focus (first | exact ev_move rfl | exact ev_assign rfl | exact ev_extract rfl rfl))) | apply Wq.nil) | ((show W _ _ _ _ _ _ _ _ _); first | apply W.seq | (refine W.regionQ mixed (by kernel_rfl) ?_) | apply W.region | apply W.block | apply W.blk | apply W.skip | apply W.scp | apply W.label | apply W.scope0 | (refine W.exit rfl ?_) | (refine W.condT rfl ?_) | (refine W.condF rfl ?_) | (refine W.cond rfl ?_ ?_ <;> (intro h; try (exfalso; first | contradiction | omega | exact h rfl | exact h ⟨rfl, rfl⟩ | (simp_all; done)))) | (refine W.condB rfl ?_ ?_ <;> (intro h; try (exfalso; first | contradiction | (simp_all; done)))) | (refine W.ret1 rfl rfl ?_; intro w hs)))
  all_goals exact ret_new hs oz hoz rfl (by rw [ents_owN]; exact (by repeat (first | exact SubH.nil | apply SubH.keep | apply SubH.drop | exact List.Sublist.refl _)))
end Go.Proofs.YthhfandandfeeaaDoor
