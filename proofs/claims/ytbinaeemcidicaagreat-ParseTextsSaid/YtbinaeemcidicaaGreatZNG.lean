/- Walks: the law ParseTexts. No condition but the cell that the library's search reads. -/
import Derived.Test.YtbinaeemcidicaaGreatZX
set_option maxRecDepth 100000
set_option maxHeartbeats 16000000
namespace Go.Proofs.YtbinaeemcidicaaGreat
open Go.PB Go.RowKit
attribute [local irreducible] Go.Calls
theorem own_cap {n k : Nat} {cs : List Value} {o : Ow} (ho : ownOk n k cs o) : ∀ p m c, ownV n o = .slice p m c → m ≤ c := fun p m c h => by
 by_cases h0 : n = 0
 ·subst h0
  have : m = 0 := by cases o <;> cases h <;> rfl
  omega
 ·obtain ⟨nb, cap, cur, rfl, hcap, hsz, hget⟩ := own_some ho Zga
  cases h
  omega
theorem own_tok {T : List Tk} {o : Ow} {H : List Ent} (h : ownOk T.length 5 (tksC T) o) (hm : ∀ p ∈ ownH 42 o, p ∈ H) : RdX H (ownV T.length o) T.length (tisC (T.map tiOf)) := by
 rw [tisC_of]
 exact RdX.own h hm
theorem textsLaw_ok {w : World} {R : List Ent} {v : Value} {ls : List (List UInt8)} (hst : St [] w w R) (hx : MxE R) (hv : RdX R v ls.length (strV ls)) (hl : ls.length ≤ 9223372036854775807) (hz : ∀ s ∈ ls, s.length ≤ 9223372036854775807) :
  Calls Tryz.prog 4 #[v] w (Give (.bool true) w) := by
 obtain ⟨q, c, rfl⟩ := hv.len
 refine give_of_W (vs := [.slice q ls.length c]) Tryz.func4 rfl Tryz.ntmps4 (Nat.le_of_ble_eq_true rfl) hst ?_
 simp only [argL]
 repeat' (first | (apply gL; first | (apply Wl.ev rfl rfl; exact Zev) | (refine lD 6 ?_; refine wl_call0 rfl rfl has6 rfl (fun w hs => wakesP_ok w (hx.mx hs (by intro e he; repeat (first | exact he | exact List.mem_append_left _ he | apply List.Mem.tail)))) ?_) | apply Wl.nil) | (apply gQ; first | (apply Wq.ev rfl rfl; exact Zev)) | (apply lW; first | apply W.seq | ((show W _ _ _ _ _ _ (.inl (.loop _) :: _) _ _); refine W.loop (X := Nat) (fun j => [(9, .slice q ls.length c), (10, .int .i64 (ls.length : Nat)), (11, .int .i64 (j : Nat))]) (fun _ => R) (fun j => j ≤ ls.length ∧ j ≤ 16) (fun j => ls.length - j) 0 ⟨Nat.zero_le _, Nat.zero_le _⟩ Zm (List.Sublist.refl _) ?_) | apply W.region | apply W.block | apply W.skip | (refine Zbc ?_)))
 all_goals first | contradiction | skip
 rintro j ⟨hj, hj6⟩
 by_cases hlt : j < ls.length
 ·obtain ⟨b, off, c1, arr, et, fr, wr, he, hmb, hcc, hgt⟩ := hv.pos Zga
  cases he
  obtain ⟨s, hsj⟩ : ∃ s, ls.getD j [] = s := ⟨_, rfl⟩
  have hsl : s.length ≤ 9223372036854775807 := hz s (by rw [← hsj]; simp [List.getD, hlt])
  have g0 : ∀ o, o = off + j → arr[o]? = some (st s) := fun o e => by
   rw [e]
   exact hgt j _ (by rw [strV_get hlt, hsj]) _ rfl
  by_cases h16 : j = 16
  ·subst h16
   repeat' (first | (apply gL; first | (apply Wl.ev rfl rfl; (focus (first | exact ev_loadAt (agT rfl) rfl hmb (g0 _ Zga) | exact Zev))) | apply Wl.nil) | (apply gQ; first | (apply Wq.ev rfl rfl; (focus (first | exact ev_loadAt (agT rfl) rfl hmb (g0 _ Zga) | exact Zev)))) | (apply lW; first | apply W.seq | apply W.region | apply W.block | apply W.skip | (refine Zbm ?_) | (refine Zbh ?_) | (refine Zv ?_ ?_ <;> (intro h; try exact Za)) | (refine Zx ?_; intro w hs)))
   all_goals first | exact ret_eq hs rfl | contradiction | exact Zz
  ·obtain ⟨t, ht⟩ : ∃ t, s.take (min s.length 2000) = t := ⟨_, rfl⟩
   have htl : t.length ≤ 2000 := by rw [← ht, List.length_take]; omega
   obtain ⟨⟨T, e, p⟩, hR⟩ : ∃ R, lexS t = R := ⟨_, rfl⟩
   have lxt := lexG_of Zga hR
   by_cases he : e = 0
   ·subst he
    obtain ⟨hts, hch, hlen⟩ := ch_of_lexS hR
    have hpar : ∀ {M : List Nat} {w0 w : World} {H : List Ent} (oz : Ow), St M w0 w H → (∀ e ∈ R, e ∈ H) → (∀ e ∈ ownH 42 oz, e ∈ H) → ownOk T.length 5 (tksC T) oz → Calls Tryz.prog 5 #[ownV T.length oz] w (Give (.bool true) w) := fun oz hs hm hm2 hoz =>
     parses_ok (l := T.map tiOf) hs (hx.up hm) (by rw [List.length_map]; exact own_tok hoz hm2) (by rw [List.length_map]; omega) (own_cap hoz)
    repeat' (first | (apply gL; first | (apply Wl.ev rfl rfl; (focus (first | exact ev_loadAt (agT rfl) rfl hmb (g0 _ Zga) | (apply gSli; first | exact (ev_slice_string_hi (strT rfl) rfl rfl Zga).to (show _ = st t from by rw [← ht]; exact congrArg (fun k => st (s.take k)) Zga)) | exact Zev))) | (refine lD 7 ?_; refine wl_callY rfl rfl has7 rfl (fun w hs => lxt w (hx.mx hs (by intro e he; repeat (first | exact he | exact List.mem_append_left _ he | apply List.Mem.tail)))) ?_; intro oz hoz; simp only [ents_owN]) | (refine lA 6 ?_; refine wl_alloc rfl rfl (zeroT rfl) ?_; intro b6) | (refine Zf6 ?_) | (refine lD 5 ?_; refine wl_call0 rfl rfl has5 rfl (fun w hs => hpar oz hs (by intro e he; repeat (first | exact he | exact List.mem_append_left _ he | apply List.Mem.tail)) (fun e he => by simp [he]) hoz) ?_) | apply Wl.nil) | (apply gQ; first | (apply Wq.ev rfl rfl; (focus (first | exact ev_loadAt (agT rfl) rfl hmb (g0 _ Zga) | (apply gSli; first | exact (ev_slice_string_hi (strT rfl) rfl rfl Zga).to (show _ = st t from by rw [← ht]; exact congrArg (fun k => st (s.take k)) Zga)) | exact Zev)))) | (apply lW; first | apply W.seq | apply W.region | apply W.block | apply W.blk | apply W.skip | (refine Zbc ?_) | (refine Zv ?_ ?_ <;> (intro h; try exact Za))))
    all_goals first | exact W.again (j + 1) ⟨hlt, by omega⟩ Zga Zm ((List.sublist_append_left _ _).cons _) | contradiction | exact Zz
   ·repeat' (first | (apply gL; first | (apply Wl.ev rfl rfl; (focus (first | exact ev_loadAt (agT rfl) rfl hmb (g0 _ Zga) | (apply gSli; first | exact (ev_slice_string_hi (strT rfl) rfl rfl Zga).to (show _ = st t from by rw [← ht]; exact congrArg (fun k => st (s.take k)) Zga)) | exact Zev))) | (refine lD 7 ?_; refine wl_callY rfl rfl has7 rfl (fun w hs => lxt w (hx.mx hs (by intro e he; repeat (first | exact he | exact List.mem_append_left _ he | apply List.Mem.tail)))) ?_; intro oz hoz; simp only [ents_owN]) | (refine lA 6 ?_; refine wl_alloc rfl rfl (zeroT rfl) ?_; intro b6) | (refine Zf6 ?_) | apply Wl.nil | (refine Zbb ?_) | ((fail_if_success (apply Wl.chk rfl)); refine Wl.split rfl rfl ?_ ?_ <;> (intro h; try exact Za))) | (apply gQ; first | (apply Wq.ev rfl rfl; (focus (first | exact ev_loadAt (agT rfl) rfl hmb (g0 _ Zga) | (apply gSli; first | exact (ev_slice_string_hi (strT rfl) rfl rfl Zga).to (show _ = st t from by rw [← ht]; exact congrArg (fun k => st (s.take k)) Zga)) | exact Zev)))) | (apply lW; first | apply W.seq | apply W.region | apply W.block | apply W.blk | apply W.skip | (refine Zbc ?_) | (refine Zv ?_ ?_ <;> (intro h; try exact Za))))
    all_goals first | exact W.again (j + 1) ⟨hlt, by omega⟩ Zga Zm ((List.sublist_append_left _ _).cons _) | contradiction | exact Zz
 ·repeat' (first | (apply gL; first | (apply Wl.ev rfl rfl; exact Zev) | apply Wl.nil) | (apply gQ; first | (apply Wq.ev rfl rfl; exact Zev)) | (apply lW; first | apply W.seq | apply W.region | (refine Zbm ?_) | (refine Zv ?_ ?_ <;> (intro h; try exact Za)) | (refine Zx ?_; intro w hs)))
  all_goals first | exact ret_eq hs rfl | contradiction | exact Zz
end Go.Proofs.YtbinaeemcidicaaGreat
