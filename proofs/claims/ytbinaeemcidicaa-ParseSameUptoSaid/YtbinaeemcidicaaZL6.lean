/- Walks of the program's reader: blanks and comments. No condition but the cell that the library's search reads. -/
import Derived.Test.YtbinaeemcidicaaZL5
namespace Go.Proofs.Ytbinaeemcidicaa
open Go.PB Go.RowKit
attribute [local irreducible] Go.Calls
/-- the cell that the library's search reads holds an integer -/
def Mx (w : World) : Prop := ∃ m, w.cell? ⟨0, 0, none⟩ = some (.int .i64 m)
theorem Mx.off {w : World} (h : Mx w) {s : List UInt8} {i ln r : Nat} (hr : w.heap[r]? = some (rdr s i ln)) : r ≠ 0 := by
  rintro rfl
  obtain ⟨m, hm⟩ := h
  rw [cell_row hr] at hm
  cases hm
theorem Mx.st {M : List Nat} {w0 w : World} {H : List Ent} (h : Mx w0) (hs : St M w0 w H) (h0 : 0 ∉ M) : Mx w := by
  obtain ⟨m, hm⟩ := h
  refine ⟨m, ?_⟩
  have hl : 0 < w0.heap.size := by
    refine Nat.pos_of_ne_zero fun e => ?_
    have : w0.heap = #[] := Array.eq_empty_of_size_eq_zero e
    simp [World.cell?, this] at hm
  have := hs.frame 0 hl h0
  unfold World.cell? at hm ⊢
  rw [this]
  exact hm
theorem nl_add (s : List UInt8) (i n : Nat) : nlN (s.take i) + nlN ((s.take (i + n)).drop i) = nlN (s.take (i + n)) := by
  unfold nlN
  rw [← List.count_append]
  congr 1
  have : s.take i = (s.take (i + n)).take i := by rw [List.take_take]; congr 1; omega
  rw [this, List.take_append_drop]
theorem index_line : ∀ l : List UInt8, (Lib.indexByte l 10 < 0 → lineN l = l.length) ∧ (¬Lib.indexByte l 10 < 0 → Lib.indexByte l 10 = (lineN l : Nat))
  | [] => by simp [Lib.indexByte, lineN, runN]
  | c :: l => by
    have ih := index_line l
    have hle := indexByte_le l 10
    unfold lineN at ih ⊢
    simp only [Lib.indexByte, runN]
    by_cases hc : c = 10
    · subst hc
      simp
    · have h1 : (c.toNat == 10) = false := by
        rw [beq_eq_false_iff_ne]
        exact fun h => hc (UInt8.toNat_inj.1 h)
      simp only [h1, Bool.not_false, if_true, List.length_cons]
      have h2 : (c == 10) = false := by simpa using hc
      simp only [h2]
      split
      · rename_i h; simp at h
      · split
        · rename_i h3
          simp at h3
          have := ih.1 (by omega)
          exact ⟨fun _ => by omega, fun h => absurd (by omega) h⟩
        · rename_i h3
          simp at h3
          have := ih.2 (by omega)
          exact ⟨fun h => by omega, fun _ => by omega⟩
theorem index_ok {s : List UInt8} (hl : s.length ≤ 1000000) (w : World) (hm : Mx w) : Calls Try.prog 36 #[st s, st [42, 47]] w (Give (.int .i64 (Lib.index s [42, 47])) w) := by
  obtain ⟨m, hm⟩ := hm
  have h := Try.strings_Index ⟨s.toArray⟩ ⟨[42, 47].toArray⟩ m w (by rw [bytes_size]; omega) hm
  refine h.mono fun e w' ⟨h1, h2⟩ => ?_
  subst h2
  exact ⟨h1, Turn.refl _⟩
set_option maxRecDepth 100000 in
set_option maxHeartbeats 4000000 in
theorem blanks_ok {s : List UInt8} {i r : Nat} (hl : s.length ≤ 1000000) (hi : i ≤ s.length) (w : World) (hm : Mx w) (hr : w.heap[r]? = some (rdr s i (nlN (s.take i)))) :
    Calls Try.prog 21 #[ptr r] w (GiveT (.bool (skipS (s.drop i)).2) r (rdr s (i + (skipS (s.drop i)).1) (nlN (s.take (i + (skipS (s.drop i)).1)))) w) := by
  refine giveT_of_W (vs := [ptr r]) Try.func21 rfl Try.ntmps21 (Nat.le_of_ble_eq_true rfl) (St.turnable hr) ?_
  simp only [argL]
  have hoff : (0 : Nat) ∉ [r] := by simpa using (hm.off hr).symm
  obtain ⟨R, hR⟩ : ∃ R, skipS (s.drop i) = R := ⟨_, rfl⟩
  rw [hR]
  repeat' (first | (apply gL; first | (apply Wl.ev rfl rfl; (focus (first | exact ev_assign rfl))) | apply Wl.nil) | ((show W _ _ _ _ _ _ _ _ _); first | apply W.seq | (refine W.again0 (X := Nat) (fun _ => [(0, ptr r)]) (fun j => [⟨r, true, rdr s j (nlN (s.take j))⟩]) (fun j => i ≤ j ∧ j ≤ s.length ∧ up (j - i) (skipS (s.drop j)) = R) (fun j => s.length - j) i ⟨Nat.le_refl _, hi, by rw [Nat.sub_self, up_zero]; exact hR⟩ (by repeat (first | exact SubL.nil | refine SubL.cons rfl ?_)) (by repeat (first | exact SubH.nil | apply SubH.keep | apply SubH.drop | exact List.Sublist.refl _ | exact List.sublist_append_left _ _)) ?_) | apply W.region))
  intro j ⟨hij, hjl, hup⟩
  obtain ⟨K, hK⟩ : ∃ K, runN blB (s.drop j) = K := ⟨_, rfl⟩
  have hKl := runN_le blB (s.drop j)
  have hstop := runN_stop blB (s.drop j)
  rw [skip_run (s.drop j), up_up, List.drop_drop] at hup
  rw [hK] at hup hKl hstop
  rw [List.length_drop] at hKl hstop
  obtain ⟨l, hls⟩ : ∃ l, s.drop (j + K) = l := ⟨_, rfl⟩
  have hll : l.length + (j + K) = s.length := by rw [← hls]; simp; omega
  rw [hls] at hup
  have hstop : 0 < l.length → blB (l.getD 0 0) = false := fun h => by
    have := hstop (by omega)
    rw [← hls]
    simpa [List.getD, List.getElem?_drop] using this
  have ru : ∀ w, Calls Try.prog 32 #[st (s.drop j), fnv 33] w (Give (.int .i64 (K : Int)) w) := fun w => Give.to (run_ok blB _ has33 blank_ok (s.drop j) (by simp; omega) w) (congrArg (fun k : Nat => Value.int .i64 (k : Int)) hK)
  have sk : ∀ (a n : Nat) (w : World), a + n ≤ s.length → w.heap[r]? = some (rdr s a (nlN (s.take a))) → Calls Try.prog 23 #[ptr r, .int .i64 (n : Int)] w (GiveT (.tuple #[]) r (rdr s (a + n) (nlN (s.take (a + n)))) w) := fun a n w hax h => by
    have hn : nlN (s.take a) ≤ 1000000 := by
      have : nlN (s.take a) ≤ (s.take a).length := List.count_le_length
      simp only [List.length_take] at this
      omega
    have := skipm_ok hl hn n hax w h
    rwa [nl_add] at this
  have skK : ∀ (w : World), w.heap[r]? = some (rdr s j (nlN (s.take j))) → Calls Try.prog 23 #[ptr r, .int .i64 (K : Int)] w (GiveT (.tuple #[]) r (rdr s (j + K) (nlN (s.take (j + K)))) w) := fun w h => sk j K w (by omega) h
  have p0 : ∀ w : World, w.heap[r]? = some (rdr s (j + K) (nlN (s.take (j + K)))) → Calls Try.prog 34 #[ptr r, .int .i64 (0 : Int)] w (Give (by8 (l.getD 0 0)) w) := fun w h => by rw [← hls]; exact peek_ok hl (by omega) 0 (by omega) w h
  have p1 : ∀ w : World, w.heap[r]? = some (rdr s (j + K) (nlN (s.take (j + K)))) → Calls Try.prog 34 #[ptr r, .int .i64 (1 : Int)] w (Give (by8 (l.getD 1 0)) w) := fun w h => by rw [← hls]; exact peek_ok hl (by omega) 1 (by omega) w h
  obtain ⟨c, hc⟩ : ∃ c, l.getD 0 0 = c := ⟨_, rfl⟩
  obtain ⟨d, hd⟩ : ∃ d, l.getD 1 0 = d := ⟨_, rfl⟩
  rw [hc] at p0 hstop
  rw [hd] at p1
  by_cases h47 : c = 47
  · obtain ⟨t, rfl⟩ : ∃ t, l = 47 :: t := by
      cases l with
      | nil => rw [← hc] at h47; cases h47
      | cons a t => exact ⟨t, by simp at hc; rw [hc, h47]⟩
    have hcn : (c.toNat : Int) = 47 := by rw [h47]; rfl
    have hth : d = 47 ∨ d = 42 → t.head? = some d := fun h => by
      cases t with
      | nil => rcases h with rfl | rfl <;> simp at hd
      | cons e t => simp at hd; simp [hd]
    by_cases hd1 : d = 47
    · have hdn : (d.toNat : Int) = 47 := by rw [hd1]; rfl
      have hsk := skip_line (t := t) (by rw [hth (.inl hd1), hd1])
      have hpos := lineN_pos (t := t) (c := 47) rfl
      have hil := index_line (47 :: t)
      have hLl : lineN (47 :: t) ≤ (47 :: t).length := runN_le _ _
      obtain ⟨I, hI⟩ : ∃ I, Lib.indexByte (47 :: t) 10 = I := ⟨_, rfl⟩
      obtain ⟨N, hN⟩ : ∃ N, lineN (47 :: t) = N := ⟨_, rfl⟩
      obtain ⟨l, hl'⟩ : ∃ l, 47 :: t = l := ⟨_, rfl⟩
      rw [hI, hN, hl'] at hil
      rw [hN] at hsk hpos hLl
      rw [hsk, up_up] at hup
      rw [hl'] at hll hls hup hLl
      have hdr : l.drop N = s.drop (j + K + N) := by rw [← hls, List.drop_drop]
      rw [hdr] at hup
      have ib : ∀ w, Calls Try.prog 35 #[st l, .int .u8 10] w (Give (.int .i64 I) w) := fun w => by rw [← hI, hl']; exact indexByte_ok l 10 w
      have sk2 : ∀ (w : World), w.heap[r]? = some (rdr s (j + K) (nlN (s.take (j + K)))) → Calls Try.prog 23 #[ptr r, .int .i64 (N : Int)] w (GiveT (.tuple #[]) r (rdr s (j + K + N) (nlN (s.take (j + K + N)))) w) := fun w h => sk (j + K) N w (by omega) h
      have fin : i ≤ j + K + N ∧ j + K + N ≤ s.length ∧ up (j + K + N - i) (skipS (s.drop (j + K + N))) = R := ⟨by omega, by omega, by rw [← hup]; congr 1; omega⟩
      by_cases hneg : I < 0
      · have e := hil.1 hneg
        subst e
        repeat' (first | (apply gL; first | (apply Wl.ev rfl rfl; (focus (first | exact ev_move rfl | (apply gLoa; first | exact ev_load (agT rfl) rfl (by repeat (first | exact List.Mem.head _ | apply List.Mem.tail)) rfl) | (apply gFie; first | exact ev_fieldAddr0 (fldT rfl) rfl) | exact ev_assign rfl | (apply gBin; first | exact ev_eqi rfl rfl | exact ev_nei rfl rfl | exact ev_lti rfl rfl) | (apply gCal; first | exact ev_len_string (strT rfl) rfl) | (apply gSli; first | exact (ev_slice_string_lo (strT rfl) rfl rfl (by omega)).to (show _ = st (s.drop j) from rfl) | exact (ev_slice_string_lo (strT rfl) rfl rfl (by omega)).to (show _ = st l from by rw [← hls]; rfl)) | exact ev_nilCheck_ptr rfl))) | ((show Wl _ _ _ _ _ _ _ (⟨_, .call ⟨.value (.func 23), _, _⟩, _, _, _, _⟩ :: _) _ _); refine wl_callT0 rfl rfl has23 rfl (fun w hs => skK w (hs.get (by repeat (first | exact List.Mem.head _ | apply List.Mem.tail)))) (by repeat (first | exact Upd.here | apply Upd.there)) ?_) | ((show Wl _ _ _ _ _ _ _ (⟨_, .call ⟨.value (.func 34), _, _⟩, _, _, _, _⟩ :: _) _ _); first | (refine wl_call0 rfl rfl has34 rfl (fun w hs => p0 w (hs.get (by repeat (first | exact List.Mem.head _ | apply List.Mem.tail)))) ?_) | (refine wl_call0 rfl rfl has34 rfl (fun w hs => p1 w (hs.get (by repeat (first | exact List.Mem.head _ | apply List.Mem.tail)))) ?_)) | ((show Wl _ _ _ _ _ _ _ (⟨_, .call ⟨.value (.func 35), _, _⟩, _, _, _, _⟩ :: _) _ _); refine wl_call0 rfl rfl has35 rfl (fun w _ => ib w) ?_) | ((show Wl _ _ _ _ _ _ _ (⟨_, .call ⟨.value (.func 23), _, _⟩, _, _, _, _⟩ :: _) _ _); refine wl_callT0 rfl rfl has23 rfl (fun w hs => sk2 w (hs.get (by repeat (first | exact List.Mem.head _ | apply List.Mem.tail)))) (by repeat (first | exact Upd.here | apply Upd.there)) ?_) | apply Wl.nil) | (apply gQ; first | (apply Wq.ev rfl rfl; (focus (first | exact ev_move rfl | (apply gLoa; first | exact ev_load (agT rfl) rfl (by repeat (first | exact List.Mem.head _ | apply List.Mem.tail)) rfl) | (apply gFie; first | exact ev_fieldAddr0 (fldT rfl) rfl) | exact ev_assign rfl | (apply gBin; first | exact ev_eqi rfl rfl | exact ev_nei rfl rfl | exact ev_lti rfl rfl) | (apply gCal; first | exact ev_len_string (strT rfl) rfl) | (apply gSli; first | exact (ev_slice_string_lo (strT rfl) rfl rfl (by omega)).to (show _ = st (s.drop j) from rfl) | exact (ev_slice_string_lo (strT rfl) rfl rfl (by omega)).to (show _ = st l from by rw [← hls]; rfl)) | exact ev_nilCheck_ptr rfl))) | ((show Wq _ _ (Qt _ _ _ _) _ _ _ _ [] _ _); apply Wq.tail) | ((show Wq _ _ _ _ _ _ _ (⟨_, .call ⟨.value (.func 32), _, _⟩, _, _, _, _⟩ :: _) _ _); refine Wq.call0 rfl rfl has32 rfl (fun w _ => ru w) ?_) | apply Wq.nil) | ((show W _ _ _ _ _ _ _ _ _); first | apply W.seq | (refine W.goto' rfl (j + K + l.length) fin (by omega) (by repeat (first | exact SubL.nil | refine SubL.cons rfl ?_)) (by repeat (first | exact SubH.nil | apply SubH.keep | apply SubH.drop | exact List.Sublist.refl _ | exact List.sublist_append_left _ _))) | ((show W _ _ _ _ _ _ (.inl (.region 1 _ true) :: _) _ _); refine W.regionT 11 mixed (by kernel_rfl) rfl rfl ?_) | (refine W.regionQ mixed (by kernel_rfl) ?_) | apply W.region | apply W.block | apply W.skip | (refine W.cond rfl ?_ ?_ <;> (intro h; try (exfalso; first | contradiction | omega | exact h rfl | exact h ⟨rfl, rfl⟩ | (simp_all; done))))))
      · have e := hil.2 hneg
        subst e
        repeat' (first | (apply gL; first | (apply Wl.ev rfl rfl; (focus (first | exact ev_move rfl | (apply gLoa; first | exact ev_load (agT rfl) rfl (by repeat (first | exact List.Mem.head _ | apply List.Mem.tail)) rfl) | (apply gFie; first | exact ev_fieldAddr0 (fldT rfl) rfl) | exact ev_assign rfl | (apply gBin; first | exact ev_eqi rfl rfl | exact ev_nei rfl rfl | exact ev_lti rfl rfl) | (apply gSli; first | exact (ev_slice_string_lo (strT rfl) rfl rfl (by omega)).to (show _ = st (s.drop j) from rfl) | exact (ev_slice_string_lo (strT rfl) rfl rfl (by omega)).to (show _ = st l from by rw [← hls]; rfl)) | exact ev_nilCheck_ptr rfl))) | ((show Wl _ _ _ _ _ _ _ (⟨_, .call ⟨.value (.func 23), _, _⟩, _, _, _, _⟩ :: _) _ _); refine wl_callT0 rfl rfl has23 rfl (fun w hs => skK w (hs.get (by repeat (first | exact List.Mem.head _ | apply List.Mem.tail)))) (by repeat (first | exact Upd.here | apply Upd.there)) ?_) | ((show Wl _ _ _ _ _ _ _ (⟨_, .call ⟨.value (.func 34), _, _⟩, _, _, _, _⟩ :: _) _ _); first | (refine wl_call0 rfl rfl has34 rfl (fun w hs => p0 w (hs.get (by repeat (first | exact List.Mem.head _ | apply List.Mem.tail)))) ?_) | (refine wl_call0 rfl rfl has34 rfl (fun w hs => p1 w (hs.get (by repeat (first | exact List.Mem.head _ | apply List.Mem.tail)))) ?_)) | ((show Wl _ _ _ _ _ _ _ (⟨_, .call ⟨.value (.func 35), _, _⟩, _, _, _, _⟩ :: _) _ _); refine wl_call0 rfl rfl has35 rfl (fun w _ => ib w) ?_) | ((show Wl _ _ _ _ _ _ _ (⟨_, .call ⟨.value (.func 23), _, _⟩, _, _, _, _⟩ :: _) _ _); refine wl_callT0 rfl rfl has23 rfl (fun w hs => sk2 w (hs.get (by repeat (first | exact List.Mem.head _ | apply List.Mem.tail)))) (by repeat (first | exact Upd.here | apply Upd.there)) ?_) | apply Wl.nil) | (apply gQ; first | (apply Wq.ev rfl rfl; (focus (first | exact ev_move rfl | (apply gLoa; first | exact ev_load (agT rfl) rfl (by repeat (first | exact List.Mem.head _ | apply List.Mem.tail)) rfl) | (apply gFie; first | exact ev_fieldAddr0 (fldT rfl) rfl) | exact ev_assign rfl | (apply gBin; first | exact ev_eqi rfl rfl | exact ev_nei rfl rfl | exact ev_lti rfl rfl) | (apply gSli; first | exact (ev_slice_string_lo (strT rfl) rfl rfl (by omega)).to (show _ = st (s.drop j) from rfl) | exact (ev_slice_string_lo (strT rfl) rfl rfl (by omega)).to (show _ = st l from by rw [← hls]; rfl)) | exact ev_nilCheck_ptr rfl))) | ((show Wq _ _ (Qt _ _ _ _) _ _ _ _ [] _ _); apply Wq.tail) | ((show Wq _ _ _ _ _ _ _ (⟨_, .call ⟨.value (.func 32), _, _⟩, _, _, _, _⟩ :: _) _ _); refine Wq.call0 rfl rfl has32 rfl (fun w _ => ru w) ?_) | apply Wq.nil) | ((show W _ _ _ _ _ _ _ _ _); first | apply W.seq | (refine W.goto' rfl (j + K + N) fin (by omega) (by repeat (first | exact SubL.nil | refine SubL.cons rfl ?_)) (by repeat (first | exact SubH.nil | apply SubH.keep | apply SubH.drop | exact List.Sublist.refl _ | exact List.sublist_append_left _ _))) | ((show W _ _ _ _ _ _ (.inl (.region 1 _ true) :: _) _ _); refine W.regionT 11 mixed (by kernel_rfl) rfl rfl ?_) | (refine W.regionQ mixed (by kernel_rfl) ?_) | apply W.region | apply W.block | apply W.skip | (refine W.condF rfl ?_) | (refine W.cond rfl ?_ ?_ <;> (intro h; try (exfalso; first | contradiction | omega | exact h rfl | exact h ⟨rfl, rfl⟩ | (simp_all; done))))))
    · have hdn := by_ne hd1
      by_cases hd2 : d = 42
      · have hdm : (d.toNat : Int) = 42 := by rw [hd2]; rfl
        have hh : t.head? = some 42 := by rw [hth (.inr hd2), hd2]
        have hix := index_end (t.drop 1)
        have ht1 : 1 ≤ t.length := by
          cases t with
          | nil => simp at hh
          | cons e t => simp
        cases he : endN (t.drop 1) with
        | none =>
          rw [he] at hix
          simp only at hix
          rw [skip_open hh he] at hup
          have e : i + R.1 = j + K := by rw [← hup]; simp only [up]; omega
          have e2 : R.2 = false := by rw [← hup]; rfl
          rw [e, e2]
          obtain ⟨u, hu⟩ : ∃ u, t.drop 1 = u := ⟨_, rfl⟩
          rw [hu] at hix
          have hul : u.length ≤ 1000000 := by rw [← hu]; simp at hll ⊢; omega
          have hdl : (47 :: t).drop 2 = u := by rw [← hu]; rfl
          obtain ⟨l, hl'⟩ : ∃ l, 47 :: t = l := ⟨_, rfl⟩
          have hl2 : 2 ≤ l.length := by rw [← hl']; simp; omega
          rw [hl'] at hdl hll hls
          have ix : ∀ w, Mx w → Calls Try.prog 36 #[st u, st [42, 47]] w (Give (.int .i64 (-1)) w) := fun w h => by rw [← hix]; exact index_ok hul w h
          repeat' (first | (apply gL; first | (apply Wl.ev rfl rfl; (focus (first | exact ev_move rfl | (apply gLoa; first | exact ev_load (agT rfl) rfl (by repeat (first | exact List.Mem.head _ | apply List.Mem.tail)) rfl) | (apply gFie; first | exact ev_fieldAddr0 (fldT rfl) rfl) | exact ev_assign rfl | (apply gBin; first | exact ev_eqi rfl rfl | exact ev_nei rfl rfl | exact ev_lti rfl rfl) | (apply gSli; first | exact (ev_slice_string_lo (strT rfl) rfl rfl (by omega)).to (show _ = st (s.drop j) from rfl) | exact (ev_slice_string_lo (strT rfl) rfl rfl (by omega)).to (show _ = st l from by rw [← hls]; rfl) | exact (ev_slice_string_lo (strT rfl) rfl rfl (by simp; omega)).to (show _ = st u from by rw [← hdl]; rfl)) | exact ev_nilCheck_ptr rfl))) | ((show Wl _ _ _ _ _ _ _ (⟨_, .call ⟨.value (.func 23), _, _⟩, _, _, _, _⟩ :: _) _ _); refine wl_callT0 rfl rfl has23 rfl (fun w hs => skK w (hs.get (by repeat (first | exact List.Mem.head _ | apply List.Mem.tail)))) (by repeat (first | exact Upd.here | apply Upd.there)) ?_) | ((show Wl _ _ _ _ _ _ _ (⟨_, .call ⟨.value (.func 34), _, _⟩, _, _, _, _⟩ :: _) _ _); first | (refine wl_call0 rfl rfl has34 rfl (fun w hs => p0 w (hs.get (by repeat (first | exact List.Mem.head _ | apply List.Mem.tail)))) ?_) | (refine wl_call0 rfl rfl has34 rfl (fun w hs => p1 w (hs.get (by repeat (first | exact List.Mem.head _ | apply List.Mem.tail)))) ?_)) | ((show Wl _ _ _ _ _ _ _ (⟨_, .call ⟨.value (.func 36), _, _⟩, _, _, _, _⟩ :: _) _ _); refine wl_call0 rfl rfl has36 rfl (fun w hs => ix w (hm.st hs hoff)) ?_) | apply Wl.nil) | (apply gQ; first | (apply Wq.ev rfl rfl; (focus (first | exact ev_move rfl | (apply gLoa; first | exact ev_load (agT rfl) rfl (by repeat (first | exact List.Mem.head _ | apply List.Mem.tail)) rfl) | (apply gFie; first | exact ev_fieldAddr0 (fldT rfl) rfl) | exact ev_assign rfl | (apply gBin; first | exact ev_eqi rfl rfl | exact ev_nei rfl rfl | exact ev_lti rfl rfl) | (apply gSli; first | exact (ev_slice_string_lo (strT rfl) rfl rfl (by omega)).to (show _ = st (s.drop j) from rfl) | exact (ev_slice_string_lo (strT rfl) rfl rfl (by omega)).to (show _ = st l from by rw [← hls]; rfl) | exact (ev_slice_string_lo (strT rfl) rfl rfl (by simp; omega)).to (show _ = st u from by rw [← hdl]; rfl)) | exact ev_nilCheck_ptr rfl))) | ((show Wq _ _ (Qt _ _ _ _) _ _ _ _ [] _ _); apply Wq.tail) | ((show Wq _ _ _ _ _ _ _ (⟨_, .call ⟨.value (.func 32), _, _⟩, _, _, _, _⟩ :: _) _ _); refine Wq.call0 rfl rfl has32 rfl (fun w _ => ru w) ?_) | apply Wq.nil) | ((show W _ _ _ _ _ _ _ _ _); first | apply W.seq | ((show W _ _ _ _ _ _ (.inl (.region 1 _ true) :: _) _ _); refine W.regionT 11 mixed (by kernel_rfl) rfl rfl ?_) | (refine W.regionQ mixed (by kernel_rfl) ?_) | apply W.region | apply W.block | apply W.skip | (refine W.condT rfl ?_) | (refine W.cond rfl ?_ ?_ <;> (intro h; try (exfalso; first | contradiction | omega | exact h rfl | exact h ⟨rfl, rfl⟩ | (simp_all; done)))) | (refine W.ret1 rfl rfl ?_; intro w hs)))
          exact retT hs (lt_of_get hr) (List.Mem.head _) rfl
        | some n =>
          rw [he] at hix
          simp only at hix
          have hen := endN_lt he
          rw [skip_block hh he, up_up] at hup
          obtain ⟨u, hu⟩ : ∃ u, t.drop 1 = u := ⟨_, rfl⟩
          rw [hu] at hix hen
          have hul : u.length + 1 = t.length := by rw [← hu]; simp; omega
          have hdl : (47 :: t).drop 2 = u := by rw [← hu]; rfl
          obtain ⟨l, hl'⟩ : ∃ l, 47 :: t = l := ⟨_, rfl⟩
          have hl2 : u.length + 2 = l.length := by rw [← hl']; simp; omega
          rw [hl'] at hdl hll hls hup
          have hdr : l.drop (n + 4) = s.drop (j + K + (n + 4)) := by rw [← hls, List.drop_drop]
          rw [hdr] at hup
          have ix : ∀ w, Mx w → Calls Try.prog 36 #[st u, st [42, 47]] w (Give (.int .i64 (n : Int)) w) := fun w h => by rw [← hix]; exact index_ok (by omega) w h
          have sk2 : ∀ (w : World), w.heap[r]? = some (rdr s (j + K) (nlN (s.take (j + K)))) → Calls Try.prog 23 #[ptr r, .int .i64 ((n : Int) + 4)] w (GiveT (.tuple #[]) r (rdr s (j + K + (n + 4)) (nlN (s.take (j + K + (n + 4))))) w) := fun w h => sk (j + K) (n + 4) w (by omega) h
          have fin : i ≤ j + K + (n + 4) ∧ j + K + (n + 4) ≤ s.length ∧ up (j + K + (n + 4) - i) (skipS (s.drop (j + K + (n + 4)))) = R := ⟨by omega, by omega, by rw [← hup]; congr 1; omega⟩
          repeat' (first | (apply gL; first | (apply Wl.ev rfl rfl; (focus (first | exact ev_move rfl | (apply gLoa; first | exact ev_load (agT rfl) rfl (by repeat (first | exact List.Mem.head _ | apply List.Mem.tail)) rfl) | (apply gFie; first | exact ev_fieldAddr0 (fldT rfl) rfl) | exact ev_assign rfl | (apply gBin; first | exact ev_eqi rfl rfl | exact ev_nei rfl rfl | exact ev_lti rfl rfl | exact ev_add64 rfl rfl (by omega)) | (apply gSli; first | exact (ev_slice_string_lo (strT rfl) rfl rfl (by omega)).to (show _ = st (s.drop j) from rfl) | exact (ev_slice_string_lo (strT rfl) rfl rfl (by omega)).to (show _ = st l from by rw [← hls]; rfl) | exact (ev_slice_string_lo (strT rfl) rfl rfl (by simp; omega)).to (show _ = st u from by rw [← hdl]; rfl)) | exact ev_nilCheck_ptr rfl))) | ((show Wl _ _ _ _ _ _ _ (⟨_, .call ⟨.value (.func 23), _, _⟩, _, _, _, _⟩ :: _) _ _); refine wl_callT0 rfl rfl has23 rfl (fun w hs => skK w (hs.get (by repeat (first | exact List.Mem.head _ | apply List.Mem.tail)))) (by repeat (first | exact Upd.here | apply Upd.there)) ?_) | ((show Wl _ _ _ _ _ _ _ (⟨_, .call ⟨.value (.func 34), _, _⟩, _, _, _, _⟩ :: _) _ _); first | (refine wl_call0 rfl rfl has34 rfl (fun w hs => p0 w (hs.get (by repeat (first | exact List.Mem.head _ | apply List.Mem.tail)))) ?_) | (refine wl_call0 rfl rfl has34 rfl (fun w hs => p1 w (hs.get (by repeat (first | exact List.Mem.head _ | apply List.Mem.tail)))) ?_)) | ((show Wl _ _ _ _ _ _ _ (⟨_, .call ⟨.value (.func 36), _, _⟩, _, _, _, _⟩ :: _) _ _); refine wl_call0 rfl rfl has36 rfl (fun w hs => ix w (hm.st hs hoff)) ?_) | ((show Wl _ _ _ _ _ _ _ (⟨_, .call ⟨.value (.func 23), _, _⟩, _, _, _, _⟩ :: _) _ _); refine wl_callT0 rfl rfl has23 rfl (fun w hs => sk2 w (hs.get (by repeat (first | exact List.Mem.head _ | apply List.Mem.tail)))) (by repeat (first | exact Upd.here | apply Upd.there)) ?_) | apply Wl.nil) | (apply gQ; first | (apply Wq.ev rfl rfl; (focus (first | exact ev_move rfl | (apply gLoa; first | exact ev_load (agT rfl) rfl (by repeat (first | exact List.Mem.head _ | apply List.Mem.tail)) rfl) | (apply gFie; first | exact ev_fieldAddr0 (fldT rfl) rfl) | exact ev_assign rfl | (apply gBin; first | exact ev_eqi rfl rfl | exact ev_nei rfl rfl | exact ev_lti rfl rfl | exact ev_add64 rfl rfl (by omega)) | (apply gSli; first | exact (ev_slice_string_lo (strT rfl) rfl rfl (by omega)).to (show _ = st (s.drop j) from rfl) | exact (ev_slice_string_lo (strT rfl) rfl rfl (by omega)).to (show _ = st l from by rw [← hls]; rfl) | exact (ev_slice_string_lo (strT rfl) rfl rfl (by simp; omega)).to (show _ = st u from by rw [← hdl]; rfl)) | exact ev_nilCheck_ptr rfl))) | ((show Wq _ _ (Qt _ _ _ _) _ _ _ _ [] _ _); apply Wq.tail) | ((show Wq _ _ _ _ _ _ _ (⟨_, .call ⟨.value (.func 32), _, _⟩, _, _, _, _⟩ :: _) _ _); refine Wq.call0 rfl rfl has32 rfl (fun w _ => ru w) ?_) | apply Wq.nil) | ((show W _ _ _ _ _ _ _ _ _); first | apply W.seq | (refine W.goto' rfl (j + K + (n + 4)) fin (by omega) (by repeat (first | exact SubL.nil | refine SubL.cons rfl ?_)) (by repeat (first | exact SubH.nil | apply SubH.keep | apply SubH.drop | exact List.Sublist.refl _ | exact List.sublist_append_left _ _))) | ((show W _ _ _ _ _ _ (.inl (.region 1 _ true) :: _) _ _); refine W.regionT 11 mixed (by kernel_rfl) rfl rfl ?_) | (refine W.regionQ mixed (by kernel_rfl) ?_) | apply W.region | apply W.block | apply W.skip | (refine W.condF rfl ?_) | (refine W.cond rfl ?_ ?_ <;> (intro h; try (exfalso; first | contradiction | omega | exact h rfl | exact h ⟨rfl, rfl⟩ | (simp_all; done))))))
      · have hdm := by_ne hd2
        rw [skip_stop bl47 (fun h => by
          rcases h.2 with h | h
          · cases t with
            | nil => simp at h
            | cons e t => simp at h hd; exact hd1 (by rw [← hd, h])
          · cases t with
            | nil => simp at h
            | cons e t => simp at h hd; exact hd2 (by rw [← hd, h]))] at hup
        have e : i + R.1 = j + K := by rw [← hup]; simp only [up]; omega
        have e2 : R.2 = true := by rw [← hup]; rfl
        rw [e, e2]
        obtain ⟨l, hl'⟩ : ∃ l, 47 :: t = l := ⟨_, rfl⟩
        rw [hl'] at hll hls
        repeat' (first | (apply gL; first | (apply Wl.ev rfl rfl; (focus (first | exact ev_move rfl | (apply gLoa; first | exact ev_load (agT rfl) rfl (by repeat (first | exact List.Mem.head _ | apply List.Mem.tail)) rfl) | (apply gFie; first | exact ev_fieldAddr0 (fldT rfl) rfl) | exact ev_assign rfl | (apply gBin; first | exact ev_eqi rfl rfl | exact ev_nei rfl rfl) | (apply gSli; first | exact (ev_slice_string_lo (strT rfl) rfl rfl (by omega)).to (show _ = st (s.drop j) from rfl) | exact (ev_slice_string_lo (strT rfl) rfl rfl (by omega)).to (show _ = st l from by rw [← hls]; rfl)) | exact ev_nilCheck_ptr rfl))) | ((show Wl _ _ _ _ _ _ _ (⟨_, .call ⟨.value (.func 23), _, _⟩, _, _, _, _⟩ :: _) _ _); refine wl_callT0 rfl rfl has23 rfl (fun w hs => skK w (hs.get (by repeat (first | exact List.Mem.head _ | apply List.Mem.tail)))) (by repeat (first | exact Upd.here | apply Upd.there)) ?_) | ((show Wl _ _ _ _ _ _ _ (⟨_, .call ⟨.value (.func 34), _, _⟩, _, _, _, _⟩ :: _) _ _); first | (refine wl_call0 rfl rfl has34 rfl (fun w hs => p0 w (hs.get (by repeat (first | exact List.Mem.head _ | apply List.Mem.tail)))) ?_) | (refine wl_call0 rfl rfl has34 rfl (fun w hs => p1 w (hs.get (by repeat (first | exact List.Mem.head _ | apply List.Mem.tail)))) ?_)) | apply Wl.nil) | (apply gQ; first | (apply Wq.ev rfl rfl; (focus (first | exact ev_move rfl | (apply gLoa; first | exact ev_load (agT rfl) rfl (by repeat (first | exact List.Mem.head _ | apply List.Mem.tail)) rfl) | (apply gFie; first | exact ev_fieldAddr0 (fldT rfl) rfl) | exact ev_assign rfl | (apply gBin; first | exact ev_eqi rfl rfl | exact ev_nei rfl rfl) | (apply gSli; first | exact (ev_slice_string_lo (strT rfl) rfl rfl (by omega)).to (show _ = st (s.drop j) from rfl) | exact (ev_slice_string_lo (strT rfl) rfl rfl (by omega)).to (show _ = st l from by rw [← hls]; rfl)) | exact ev_nilCheck_ptr rfl))) | ((show Wq _ _ (Qt _ _ _ _) _ _ _ _ [] _ _); apply Wq.tail) | ((show Wq _ _ _ _ _ _ _ (⟨_, .call ⟨.value (.func 32), _, _⟩, _, _, _, _⟩ :: _) _ _); refine Wq.call0 rfl rfl has32 rfl (fun w _ => ru w) ?_) | apply Wq.nil) | ((show W _ _ _ _ _ _ _ _ _); first | apply W.seq | ((show W _ _ _ _ _ _ (.inl (.region 1 _ true) :: _) _ _); refine W.regionT 11 mixed (by kernel_rfl) rfl rfl ?_) | (refine W.regionQ mixed (by kernel_rfl) ?_) | apply W.region | apply W.block | apply W.blk | apply W.skip | (refine W.cond rfl ?_ ?_ <;> (intro h; try (exfalso; first | contradiction | omega | exact h rfl | exact h ⟨rfl, rfl⟩ | (simp_all; done)))) | (refine W.ret1 rfl rfl ?_; intro w hs)))
        all_goals exact retT hs (lt_of_get hr) (List.Mem.head _) rfl
  · have hres : skipS l = (0, true) := by
      cases l with
      | nil => exact skip_nil
      | cons a t =>
        simp only [List.getD_cons_zero] at hc
        subst hc
        exact skip_stop (hstop (by simp)) fun h => h47 h.1
    rw [hres] at hup
    have hcn := by_ne h47
    have e : i + R.1 = j + K := by rw [← hup]; simp only [up]; omega
    have e2 : R.2 = true := by rw [← hup]; rfl
    rw [e, e2]
    repeat' (first | (apply gL; first | (apply Wl.ev rfl rfl; (focus (first | exact ev_move rfl | (apply gLoa; first | exact ev_load (agT rfl) rfl (by repeat (first | exact List.Mem.head _ | apply List.Mem.tail)) rfl) | (apply gFie; first | exact ev_fieldAddr0 (fldT rfl) rfl) | exact ev_assign rfl | exact ev_nei rfl rfl | (apply gSli; first | exact (ev_slice_string_lo (strT rfl) rfl rfl (by omega)).to (show _ = st (s.drop j) from rfl)) | exact ev_nilCheck_ptr rfl))) | ((show Wl _ _ _ _ _ _ _ (⟨_, .call ⟨.value (.func 23), _, _⟩, _, _, _, _⟩ :: _) _ _); refine wl_callT0 rfl rfl has23 rfl (fun w hs => skK w (hs.get (by repeat (first | exact List.Mem.head _ | apply List.Mem.tail)))) (by repeat (first | exact Upd.here | apply Upd.there)) ?_) | ((show Wl _ _ _ _ _ _ _ (⟨_, .call ⟨.value (.func 34), _, _⟩, _, _, _, _⟩ :: _) _ _); first | (refine wl_call0 rfl rfl has34 rfl (fun w hs => p0 w (hs.get (by repeat (first | exact List.Mem.head _ | apply List.Mem.tail)))) ?_) | (refine wl_call0 rfl rfl has34 rfl (fun w hs => p1 w (hs.get (by repeat (first | exact List.Mem.head _ | apply List.Mem.tail)))) ?_)) | apply Wl.nil) | (apply gQ; first | (apply Wq.ev rfl rfl; (focus (first | exact ev_move rfl | (apply gLoa; first | exact ev_load (agT rfl) rfl (by repeat (first | exact List.Mem.head _ | apply List.Mem.tail)) rfl) | (apply gFie; first | exact ev_fieldAddr0 (fldT rfl) rfl) | exact ev_assign rfl | exact ev_nei rfl rfl | (apply gSli; first | exact (ev_slice_string_lo (strT rfl) rfl rfl (by omega)).to (show _ = st (s.drop j) from rfl)) | exact ev_nilCheck_ptr rfl))) | ((show Wq _ _ (Qt _ _ _ _) _ _ _ _ [] _ _); apply Wq.tail) | ((show Wq _ _ _ _ _ _ _ (⟨_, .call ⟨.value (.func 32), _, _⟩, _, _, _, _⟩ :: _) _ _); refine Wq.call0 rfl rfl has32 rfl (fun w _ => ru w) ?_)) | ((show W _ _ _ _ _ _ _ _ _); first | apply W.seq | ((show W _ _ _ _ _ _ (.inl (.region 1 _ true) :: _) _ _); refine W.regionT 11 mixed (by kernel_rfl) rfl rfl ?_) | apply W.region | (refine W.cond rfl ?_ ?_ <;> (intro h; try (exfalso; first | contradiction | omega | exact h rfl | exact h ⟨rfl, rfl⟩ | (simp_all; done)))) | (refine W.ret1 rfl rfl ?_; intro w hs)))
    exact retT hs (lt_of_get hr) (List.Mem.head _) rfl
end Go.Proofs.Ytbinaeemcidicaa
