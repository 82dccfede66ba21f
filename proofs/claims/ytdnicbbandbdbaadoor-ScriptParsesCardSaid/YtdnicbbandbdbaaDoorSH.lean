/- Walks: a line that is told; the text of a script. No condition but the listed tables that the library reads. -/
import Derived.Test.YtdnicbbandbdbaaDoorSG
namespace Go.Proofs.YtdnicbbandbdbaaDoor
open Go.PB Go.RowKit
attribute [local irreducible] Go.Calls
theorem wr_new {bt : TypeId} {M : List Nat} {w0 w : World} {b : Nat} {A : List Ent} (h : St M w0 w (⟨b, true, row [.pointer none, .slice none 0 0] bt⟩ :: A)) : St M w0 w (wrH bt b (.pointer none) [] none A) := by
  unfold wrH bld
  rw [ownH_none, List.append_nil]
  exact h
theorem wr_ok0 (b : Nat) : wrOk b (.pointer none) [] none := ⟨.inl rfl, rfl, rfl⟩
theorem wr_swap {bt : TypeId} {M : List Nat} {w0 w : World} {b : Nat} {p : Value} {l : List UInt8} {o : Ow} {A : List Ent} {q : Ent} (h : St M w0 w (q :: wrH bt b p l o A)) : St M w0 w (wrH bt b p l o (q :: A)) := h.perm (List.Perm.swap _ _ _)
set_option maxRecDepth 100000 in
theorem len_ok {M : List Nat} {w0 w : World} {bt : TypeId} {A : List Ent} {b : Nat} {p : Value} {o : Ow} {l : List UInt8} (hok : wrOk b p l o) (hst : St M w0 w (wrH bt b p l o A)) :
    Calls Tryd.prog 44 #[ptr b] w (Give (.int .i64 (l.length : Nat)) w) := by
  refine give_of_W (vs := [ptr b]) Tryd.func44 rfl Tryd.ntmps44 (Nat.le_of_ble_eq_true rfl) hst.reads ?_
  simp only [argL]
  have hm : (⟨b, false, bld bt p l.length o⟩ : Ent) ∈ ro (wrH bt b p l o A) := mem_ro (List.Mem.head _)
  repeat' (first | (apply gL; first | (apply Wl.ev rfl rfl; (focus (first | exact ev_move rfl | (apply gLoa; first | exact ev_load (agT rfl) rfl hm rfl) | (apply gFie; first | exact ev_fieldAddr0 (fldT rfl) rfl) | exact ev_assign rfl | (apply gCal; first | exact ev_len_own (slT rfl) hok.2 rfl) | exact ev_nilCheck_ptr rfl))) | apply Wl.nil) | (apply gQ; first | (apply Wq.ev rfl rfl; (focus (first | exact ev_move rfl | (apply gLoa; first | exact ev_load (agT rfl) rfl hm rfl) | (apply gFie; first | exact ev_fieldAddr0 (fldT rfl) rfl) | exact ev_assign rfl | (apply gCal; first | exact ev_len_own (slT rfl) hok.2 rfl) | exact ev_nilCheck_ptr rfl)))) | ((show W _ _ _ _ _ _ _ _ _); first | apply W.seq | apply W.region | (refine W.ret1 rfl rfl ?_; intro w hs)))
  all_goals exact ret_eq hs rfl
theorem numsS_len {is : List Int} {bs : List UInt8} (h : ∀ n ∈ is, inI64 n) : (numsS is bs).length ≤ 21 * is.length + 2 * bs.length + 2 := by
  unfold numsS
  have h1 := flat_len' (fun n => 32 :: Lib.itoa n) 21 is fun n hn => by
    have := itoa_len20 (h n hn)
    simp only [List.length_cons]
    omega
  rw [List.length_append]
  split
  · simp only [List.length_nil]; omega
  · simp only [List.length_cons, hexS_len]; omega
set_option maxRecDepth 100000 in
set_option maxHeartbeats 4000000 in
theorem line_ok {M : List Nat} {w0 w : World} {R : List Ent} {iv bv : Value} {is : List Int} {bs : List UInt8} (hst : St M w0 w R) (hiv : RdX R iv is.length (intV is)) (hbv : RdX R bv bs.length (bytV bs)) (his : ∀ n ∈ is, inI64 n)
    (hil : is.length ≤ 100000) (hbl : bs.length ≤ 1000000) (lb : Lb w) : Calls Tryd.prog 16 #[.agg #[iv, bv]] w (Give (st ([111, 107] ++ numsS is bs ++ [10])) w) := by
  have hiv' := hiv.ro
  have hbv' := hbv.ro
  obtain ⟨p1, c1, rfl⟩ := hiv.len
  obtain ⟨p2, c2, rfl⟩ := hbv.len
  refine give_of_W (vs := [.agg #[.slice p1 is.length c1, .slice p2 bs.length c2]]) Tryd.func16 rfl Tryd.ntmps16 (Nat.le_of_ble_eq_true rfl) hst.reads ?_
  simp only [argL]
  have hnl := numsS_len (bs := bs) his
  have nb : ∀ {M w0 w} {b : Nat} {p : Value} {o : Ow} {l : List UInt8} {A : List Ent} {q : Ent}, wrOk b p l o → l.length ≤ 100 → A = q :: ro R → St M w0 w (wrH 68 b p l o A) → Lb w0 → Low M → Calls Tryd.prog 34 #[ptr b, .slice p1 is.length c1, .slice p2 bs.length c2] w (GivesS (fun _ : Value × Ow => .tuple #[]) (fun q => wrOk b q.1 (l ++ numsS is bs) q.2) M w0 (fun q => wrH 68 b q.1 (l ++ numsS is bs) q.2 A)) :=
    fun {M w0 w b p o l A q} hok hl hA hs lb lo => numbers_ok (hiv'.mono fun p hp => by rw [hA]; exact List.Mem.tail _ hp) (hbv'.mono fun p hp => by rw [hA]; exact List.Mem.tail _ hp) his (by omega) hbl hok (by omega) hs (lb.st hs lo) (lb.low hs lo)
  repeat' (first | (apply gL; first | (apply Wl.ev rfl rfl; (focus (first | (apply gLoa; first | exact ev_load (agT rfl) rfl (by repeat (first | exact List.Mem.head _ | apply List.Mem.tail)) rfl) | (apply gFie; first | exact ev_fieldAddr0 (fldT rfl) rfl) | exact ev_assign rfl))) | ((show Wl _ _ _ _ _ _ _ (⟨_, .call ⟨.value (.func 33), _, _⟩, _, _, _, _⟩ :: _) _ (⟨_, true, row [.pointer none, .slice none 0 0] _⟩ :: _)); refine wl_callS rfl rfl has33 rfl (fun w hs => wStr bt_w _ (by decide) (by decide) (wr_ok0 _) (by decide) (wr_new hs)) ?_; intro o2 hok2) | ((show Wl _ _ _ _ _ _ _ (⟨_, .call ⟨.value (.func 35), _, _⟩, _, _, _, _⟩ :: _) _ _); first | (refine wl_callS rfl rfl has35 rfl (fun w hs => wByte bt_w 32 (by assumption) (by first | omega | (simp only [List.length_append, List.length_cons, List.length_nil]; omega)) hs) ?_; intro o2 hok2) | (refine wl_callS rfl rfl has35 rfl (fun w hs => wByte bt_w 10 (by assumption) (by first | omega | (simp only [List.length_append, List.length_cons, List.length_nil]; omega)) hs) ?_; intro o2 hok2)) | ((show Wl _ _ _ _ _ _ _ (⟨_, .call ⟨.value (.func 36), _, _⟩, _, _, _, _⟩ :: _) _ _); refine wl_callS rfl rfl has36 rfl (fun w hs => builder_ok bt_w hok2.2 (.inl (by simp)) (by simp only [List.length_append, List.length_cons, List.length_nil]; omega) hs) ?_; rintro ⟨⟩ -) | ((show Wl _ _ _ _ _ _ _ (⟨_, .call ⟨.value (.func 34), _, _⟩, _, _, _, _⟩ :: _) _ _); refine wl_callS rfl rfl has34 rfl (fun w hs => nb hok2 (by decide) rfl hs lb Low.nil) ?_; rintro ⟨p3, o3⟩ hok3) | apply Wl.nil | (refine wl_box rfl rfl rfl rfl ?_; intro b) | (refine wl_alloc rfl rfl (zeroT rfl) ?_; intro b)) | (apply gQ; first | (apply Wq.ev rfl rfl; (focus (first | (apply gLoa; first | exact ev_load (agT rfl) rfl (by repeat (first | exact List.Mem.head _ | apply List.Mem.tail)) rfl) | (apply gFie; first | exact ev_fieldAddr0 (fldT rfl) rfl) | exact ev_assign rfl)))) | ((show W _ _ _ _ _ _ _ _ _); first | apply W.seq | apply W.region | (refine W.ret1 rfl rfl ?_; intro w hs)))
  all_goals first | exact ret_eq hs rfl | fail
/-- what is printed of a script; its error -/
def printS (s : Sc) : List UInt8 × Int := if okS s then (if 262144 < (textS s).length then ([], 3) else (textS s, 0)) else ([], 2)
/-- the text so far -/
def prefT (sw sh : Int) (l : List Cv) (j : Nat) : List UInt8 := canS sw sh ++ [10] ++ (clsOf (l.take j)).flatMap fun x => lineS x ++ [10]
theorem prefT_succ {sw sh : Int} {l : List Cv} {j : Nat} (hj : j < l.length) : prefT sw sh l (j + 1) = prefT sw sh l j ++ (lineS (l.getD j cv0).c ++ [10]) := by
  unfold prefT clsOf
  rw [List.take_succ_eq_append_getElem hj, List.map_append, List.flatMap_append, ← List.append_assoc]
  simp [List.getD, hj]
theorem prefT_len {sw sh : Int} {l : List Cv} (hw : sideP sw) (hh : sideP sh) (h : ∀ x ∈ clsOf l, okC x) (hl : l.length ≤ 200) (j : Nat) : (prefT sw sh l j).length ≤ 13000000 := by
  unfold prefT
  have h1 := canS_len hw hh
  have h2 := flat_len' (fun x : Cl => lineS x ++ [10]) 60001 (clsOf (l.take j)) fun x hx => by
    have : x ∈ clsOf l := by
      obtain ⟨y, hy, rfl⟩ := List.mem_map.1 hx
      exact List.mem_map.2 ⟨y, List.mem_of_mem_take hy, rfl⟩
    have := lineS_len (h x this)
    simp only [List.length_append, List.length_singleton]
    omega
  have h3 : (clsOf (l.take j)).length ≤ 200 := by simp; omega
  simp only [List.length_append, List.length_singleton]
  omega
theorem prefT_zero (sw sh : Int) (l : List Cv) : prefT sw sh l 0 = canS sw sh ++ [10] := by unfold prefT clsOf; rw [List.take_zero, List.map_nil, List.flatMap_nil, List.append_nil]
theorem most64 {n : Int} (h : inMost n) : inI64 n := by unfold inMost most at h; unfold inI64; omega
set_option maxRecDepth 100000 in
set_option maxHeartbeats 16000000 in
theorem print_ok {M : List Nat} {w0 w : World} {R : List Ent} {sw sh : Int} {cv : Value} {l : List Cv} (hst : St M w0 w R) (hv : RdC R cv l) (hl : l.length ≤ 1000000) (hz : ∀ y ∈ l, y.c.is.length ≤ 1000000 ∧ y.c.bs.length ≤ 1000000 ∧ y.c.tx.length ≤ 1000000) (lb : Lb w) :
    Calls Tryd.prog 22 #[scV sw sh cv] w (Give (.tuple #[st (printS ⟨sw, sh, clsOf l⟩).1, .int .i64 (printS ⟨sw, sh, clsOf l⟩).2]) w) := by
  have hv' := hv.ro
  have hcv : cv.oneCell' = true := by
    obtain ⟨p, c, rfl⟩ := hv.1.len
    rfl
  have hlen : ∃ p c, cv = .slice p l.length c := hv.1.len
  refine give_of_W (vs := [scV sw sh cv]) Tryd.func22 rfl Tryd.ntmps22 (Nat.le_of_ble_eq_true rfl) hst.reads ?_
  simp only [argL]
  have ck : ∀ {M w0 w} {q : Ent}, St M w0 w (q :: ro R) → Lb w → Calls Tryd.prog 23 #[scV sw sh cv] w (Give (.int .i64 (if okS ⟨sw, sh, clsOf l⟩ then 0 else 2)) w) := fun {M w0 w q} hs' lb => check_ok hs' (hv'.mono fun p hp => List.Mem.tail _ hp) hl hz lb
  unfold printS
  by_cases hok : okS ⟨sw, sh, clsOf l⟩
  case neg =>
    rw [if_neg hok]
    rw [if_neg hok] at ck
    repeat' (first | (apply gL; first | (apply Wl.ev rfl rfl; (focus (first | exact ev_move rfl | (apply gLoa; first | exact ev_loadWhole (agT rfl) (szT rfl) rfl (by repeat (first | exact List.Mem.head _ | apply List.Mem.tail)) rfl) | exact ev_assign rfl | exact ev_nei rfl rfl))) | ((show Wl _ _ _ _ _ _ _ (⟨_, .call ⟨.value (.func 23), _, _⟩, _, _, _, _⟩ :: _) _ _); refine wl_call0 rfl rfl has23 rfl (fun w hs => ck hs (lb.st hs Low.nil)) ?_) | apply Wl.nil | (refine wl_box rfl rfl rfl rfl ?_; intro b)) | (apply gQ; first | (apply Wq.ev rfl rfl; (focus (first | exact ev_move rfl | (apply gLoa; first | exact ev_loadWhole (agT rfl) (szT rfl) rfl (by repeat (first | exact List.Mem.head _ | apply List.Mem.tail)) rfl) | exact ev_assign rfl | exact ev_nei rfl rfl)))) | ((show W _ _ _ _ _ _ _ _ _); first | apply W.seq | apply W.region | (refine W.condT rfl ?_) | (refine W.ret2 rfl rfl rfl ?_; intro w hs)))
    all_goals first | exact ret_eq hs rfl | fail
  rw [if_pos hok]
  rw [if_pos hok] at ck
  obtain ⟨h1, h2, h3, h4⟩ := hok
  dsimp only at h1 h2 h3 h4
  rw [List.length_map] at h3
  obtain ⟨p1, c1, rfl⟩ := hlen
  have hpl := prefT_len h1 h2 h4 h3
  have i1 : inI64 sw := most64 (side_most h1)
  have i2 : inI64 sh := most64 (side_most h2)
  have hT : textS ⟨sw, sh, clsOf l⟩ = prefT sw sh l l.length := by unfold textS prefT; rw [List.take_length]
  have nb0 : ∀ {M w0 w} {b g : Nat} {p : Value} {o : Ow} {t : List UInt8} {A : List Ent} {e : TypeId}, wrOk b p t o → t.length ≤ 100 → St M w0 w (⟨g, true, row [.int .i64 sw, .int .i64 sh] e⟩ :: wrH 68 b p t o A) → Lb w0 → Low M → Calls Tryd.prog 34 #[ptr b, .slice (some ⟨g, 0, none⟩) 2 2, .slice none 0 0] w (GivesS (fun _ : Value × Ow => .tuple #[]) (fun q => wrOk b q.1 (t ++ numsS [sw, sh] []) q.2) M w0 (fun q => wrH 68 b q.1 (t ++ numsS [sw, sh] []) q.2 (⟨g, true, row [.int .i64 sw, .int .i64 sh] e⟩ :: A))) :=
    fun {M w0 w b g p o t A e} hok hl hs lb lo => by
      have hs2 := wr_swap hs
      exact numbers_ok (is := [sw, sh]) (bs := []) (.inr ⟨g, 0, 2, _, e, (0, 0), true, rfl, List.Mem.head _, Nat.le_refl 2, fun j u h => by rw [Nat.zero_add]; simpa [intV] using h⟩) (.inl ⟨none, 0, rfl, rfl⟩) (fun n hn => by simp at hn; rcases hn with rfl | rfl <;> assumption) (show 2 ≤ 1000000 by decide) (by decide) hok (by omega) hs2 (lb.st hs2 lo) (lb.low hs2 lo)
  have hcl : (numsS [sw, sh] []).length ≤ 60000 := by
    have := canS_len h1 h2
    unfold canS at this
    rw [List.length_append] at this
    omega
  repeat' (first | (apply gL; first | (apply Wl.ev rfl rfl; (focus (first | exact ev_move rfl | (apply gLoa; first | exact ev_load (agT rfl) rfl (by repeat (first | exact List.Mem.head _ | apply List.Mem.tail)) rfl | exact ev_loadWhole (agT rfl) (szT rfl) rfl (by repeat (first | exact List.Mem.head _ | apply List.Mem.tail)) rfl) | (apply gFie; first | exact ev_fieldAddr0 (fldT rfl) rfl) | exact ev_assign rfl | exact ev_nei rfl rfl | (apply gCal; first | exact ev_len_slice (slT rfl) rfl)))) | ((show Wl _ _ _ _ _ _ _ (⟨some 1, .box _ _, _, _, _, _⟩ :: _) _ _); refine wl_box rfl rfl rfl rfl ?_; intro s1) | ((show Wl _ _ _ _ _ _ _ (⟨some 5, .alloc _, _, _, _, _⟩ :: _) _ _); refine wl_alloc rfl rfl (zeroT rfl) ?_; intro s5) | ((show Wl _ _ _ _ _ _ _ (⟨some 19, .buildSlice _ _ _, _, _, _, _⟩ :: _) _ _); apply wl_buildSlice rfl rfl (slT rfl) (szT rfl) (zeroT rfl) rfl (by decide) rfl; (focus (simp [fillP, List.range_succ]; rfl)); intro s19) | ((show Wl _ _ _ _ _ _ _ (⟨_, .call ⟨.value (.func 23), _, _⟩, _, _, _, _⟩ :: _) _ _); refine wl_call0 rfl rfl has23 rfl (fun w hs => ck hs (lb.st hs Low.nil)) ?_) | ((show Wl _ _ _ _ _ _ _ (⟨_, .call ⟨.value (.func 33), _, _⟩, _, _, _, _⟩ :: _) _ (⟨_, true, row [.pointer none, .slice none 0 0] _⟩ :: _)); refine wl_callS rfl rfl has33 rfl (fun w hs => wStr bt_w _ (by decide) (by decide) (wr_ok0 _) (by decide) (wr_new hs)) ?_; intro o2 hok2) | ((show Wl _ _ _ _ _ _ _ (⟨_, .call ⟨.value (.func 35), _, _⟩, _, _, _, _⟩ :: _) _ _); first | (refine wl_callS rfl rfl has35 rfl (fun w hs => wByte bt_w 32 (by assumption) (by first | omega | (simp only [List.length_append, List.length_cons, List.length_nil]; omega)) hs) ?_; intro o2 hok2) | (refine wl_callS rfl rfl has35 rfl (fun w hs => wByte bt_w 10 (by assumption) (by first | omega | (simp only [List.length_append, List.length_cons, List.length_nil]; omega)) hs) ?_; intro o2 hok2)) | ((show Wl _ _ _ _ _ _ _ (⟨_, .call ⟨.value (.func 34), _, _⟩, _, _, _, _⟩ :: _) _ _); refine wl_callS rfl rfl has34 rfl (fun w hs => nb0 hok2 (by decide) hs lb Low.nil) ?_; rintro ⟨p3, o3⟩ hok3; dsimp only at hok3 ⊢) | apply Wl.nil) | (apply gQ; first | (apply Wq.ev rfl rfl; (focus (first | exact ev_move rfl | (apply gLoa; first | exact ev_load (agT rfl) rfl (by repeat (first | exact List.Mem.head _ | apply List.Mem.tail)) rfl | exact ev_loadWhole (agT rfl) (szT rfl) rfl (by repeat (first | exact List.Mem.head _ | apply List.Mem.tail)) rfl) | (apply gFie; first | exact ev_fieldAddr0 (fldT rfl) rfl) | exact ev_assign rfl | exact ev_nei rfl rfl | (apply gCal; first | exact ev_len_slice (slT rfl) rfl))))) | ((show W _ _ _ _ _ _ _ _ _); first | apply W.seq | (refine W.loop (X := Nat × Ow) (fun x => [(1, ptr s1), (5, ptr s5), (24, .slice p1 l.length c1), (25, .int .i64 (l.length : Nat)), (26, .int .i64 (x.1 : Nat))]) (fun x => wrH 68 s5 (ptr s5) (prefT sw sh l x.1) x.2 (⟨s1, true, row [.int .i64 sw, .int .i64 sh, .slice p1 l.length c1] 26⟩ :: ro R)) (fun x => x.1 ≤ l.length ∧ wrOk s5 (ptr s5) (prefT sw sh l x.1) x.2) (fun x => l.length - x.1) (0, o2) ⟨Nat.zero_le _, by rw [prefT_zero]; exact hok2⟩ (by repeat (first | exact SubL.nil | refine SubL.cons rfl ?_)) (by rw [prefT_zero]; exact List.Sublist.cons_cons _ (List.Sublist.cons _ (List.Sublist.refl _))) ?_) | apply W.region | apply W.block | apply W.skip | (refine W.condF rfl ?_)))
  rintro ⟨j, o⟩ ⟨hj, hok⟩
  dsimp only at hj hok ⊢
  clear hok2 hok3
  have hpj := hpl j
  by_cases hlt : j < l.length
  · obtain ⟨g, off, c, arr, et, fr, wr, he, hm, hcc, hgt⟩ := hv'.1.pos (by omega)
    cases he
    have hsu := prefT_succ (sw := sw) (sh := sh) hlt
    have hpl1 := hpl (j + 1)
    rw [hsu] at hpl1
    have hyl := getD_mem (d := cv0) hlt
    have hyk : okC (l.getD j cv0).c := h4 _ (List.mem_map.2 ⟨_, hyl, rfl⟩)
    have hyv := hv'.2 _ hyl
    have hzy := hz _ hyl
    have g0 : ∀ (f : Nat) u, (cvC (l.getD j cv0))[f]? = some u → ∀ o, o = off + (j * 4 + f) → arr[o]? = some u := fun f u h => hgt _ _ (cvsC_get hlt h)
    obtain ⟨⟨⟨op, is, bs, tx⟩, iv, bv⟩, hy⟩ : ∃ y, l.getD j cv0 = y := ⟨_, rfl⟩
    rw [hy] at hsu hpl1 hyk hyv hzy g0
    dsimp only at hsu hpl1 hyk hzy
    obtain ⟨pi, ci, rfl⟩ : ∃ p c, iv = .slice p is.length c := hyv.1.len
    obtain ⟨pb, cb, rfl⟩ : ∃ p c, bv = .slice p bs.length c := hyv.2.len
    obtain ⟨k1, k2, k3, k4, k5⟩ := hyk
    dsimp only at k1 k2 k3 k4 k5
    have his : ∀ n ∈ is, inI64 n := fun n hn => most64 (k5 n hn)
    have hwd0 : 0 < (wdS op).length := List.length_pos_iff.2 (wd_bytes _ (wdS_mem k1)).2.2.2
    have hwd1 := wd_len _ (wdS_mem k1)
    have hnl := numsS_len (bs := bs) his
    obtain ⟨P, hP⟩ : ∃ P, prefT sw sh l j = P := ⟨_, rfl⟩
    rw [hP] at hok hpj hsu ⊢
    have nb : ∀ {M w0 w} {b : Nat} {p : Value} {o : Ow} {t : List UInt8} {A : List Ent} {q1 q2 : Ent}, wrOk b p t o → t.length ≤ 20000000 → A = q1 :: q2 :: ro R → St M w0 w (wrH 68 b p t o A) → Lb w0 → Low M → Calls Tryd.prog 34 #[ptr b, .slice pi is.length ci, .slice pb bs.length cb] w (GivesS (fun _ : Value × Ow => .tuple #[]) (fun q => wrOk b q.1 (t ++ numsS is bs) q.2) M w0 (fun q => wrH 68 b q.1 (t ++ numsS is bs) q.2 A)) :=
      fun {M w0 w b p o l A q1 q2} hok hl hA hs lb lo => numbers_ok (hyv.1.mono fun p hp => by rw [hA]; exact List.Mem.tail _ (List.Mem.tail _ hp)) (hyv.2.mono fun p hp => by rw [hA]; exact List.Mem.tail _ (List.Mem.tail _ hp)) his (by omega) (by omega) hok (by omega) hs (lb.st hs lo) (lb.low hs lo)
    have e1 : tx = [] → prefT sw sh l (j + 1) = P ++ wdS op ++ numsS is bs ++ [10] := fun e => by
      rw [hsu]
      unfold lineS
      dsimp only
      rw [if_pos e]
      simp
    have e2 : tx ≠ [] → prefT sw sh l (j + 1) = P ++ wdS op ++ numsS is bs ++ [32] ++ quoS tx ++ [10] := fun e => by
      rw [hsu]
      unfold lineS
      dsimp only
      rw [if_neg e]
      simp
    have hql := flat_len quoB 4 quoB_len tx
    have hqs : (quoS tx).length = (tx.flatMap quoB).length + 2 := by unfold quoS; simp
    repeat' (first | (apply gL; first | (apply Wl.ev rfl rfl; (focus (first | exact ev_move rfl | (apply gLoa; first | exact ev_loadAggAt (agT rfl) (szT rfl) rfl (List.Mem.tail _ (List.Mem.tail _ (List.mem_append_left _ hm))) (fun i v h => g0 i v h _ (by omega)) rfl | exact ev_load (agT rfl) rfl (by repeat (first | exact List.Mem.head _ | apply List.Mem.tail)) rfl) | (apply gFie; first | exact ev_fieldAddr0 (fldT rfl) rfl) | (apply gBin; first | exact ev_nes rfl rfl | exact ev_lti rfl rfl | exact ev_add64 rfl rfl (by omega)) | (apply gIxA; first | exact ev_indexAddr (slT rfl) (szT rfl) rfl rfl (by omega))))) | ((show Wl _ _ _ _ _ _ _ (⟨some 7, .alloc _, _, _, _, _⟩ :: _) _ _); refine wl_alloc rfl rfl (zeroT rfl) ?_; intro s7) | ((show Wl _ _ _ _ _ _ _ (⟨_, .call ⟨.value (.func 34), _, _⟩, _, _, _, _⟩ :: _) _ _); refine wl_callS rfl rfl has34 rfl (fun w hs => nb hok2 (by simp only [List.length_append]; omega) rfl hs lb Low.nil) ?_; rintro ⟨p3, o3⟩ hok3; dsimp only at hok3 ⊢) | ((show Wl _ _ _ _ _ _ _ (⟨_, .call ⟨.value (.func 43), _, _⟩, _, _, _, _⟩ :: _) _ _); refine wl_callS rfl rfl has43 rfl (fun w hs => quote_ok tx (by omega) hok2 (by simp only [List.length_append, List.length_cons, List.length_nil]; omega) hs) ?_; intro o4 hok4) | ((show Wl _ _ _ _ _ _ _ (⟨_, .call ⟨.value (.func 14), _, _⟩, _, _, _, _⟩ :: _) _ _); refine wl_call0 rfl rfl has14 rfl (fun w hs => word_ok op w (lb.st hs Low.nil)) ?_) | ((show Wl _ _ _ _ _ _ _ (⟨_, .call ⟨.value (.func 33), _, _⟩, _, _, _, _⟩ :: _) _ _); first | (refine wl_callS rfl rfl has33 rfl (fun w hs => wStr bt_w _ (by first | exact Nat.succ_pos _ | omega | (simp; omega)) (by first | omega | (simp only [List.length_cons]; omega) | decide) (by assumption) (by first | omega | (simp only [List.length_append, List.length_cons, List.length_nil]; omega)) hs) ?_; intro o2 hok2) | (refine wl_callS rfl rfl has33 rfl (fun w hs => wStr bt_w _ (by first | exact Nat.succ_pos _ | omega | (simp; omega)) (by first | omega | (simp only [List.length_cons]; omega) | decide) (by assumption) (by first | omega | (simp only [List.length_append, List.length_cons, List.length_nil]; omega)) (wr_swap hs)) ?_; intro o2 hok2)) | ((show Wl _ _ _ _ _ _ _ (⟨_, .call ⟨.value (.func 35), _, _⟩, _, _, _, _⟩ :: _) _ _); first | (refine wl_callS rfl rfl has35 rfl (fun w hs => wByte bt_w 32 (by assumption) (by first | omega | (simp only [List.length_append, List.length_cons, List.length_nil]; omega)) hs) ?_; intro o2 hok2) | (refine wl_callS rfl rfl has35 rfl (fun w hs => wByte bt_w 10 (by assumption) (by first | omega | (simp only [List.length_append, List.length_cons, List.length_nil]; omega)) hs) ?_; intro o2 hok2)) | apply Wl.nil | (refine wl_storeWhole rfl rfl rfl (szT rfl) rfl (by repeat (first | exact Upd.here | apply Upd.there)) (by rfl) ?_)) | (apply gQ; first | (apply Wq.ev rfl rfl; (focus (first | exact ev_move rfl | (apply gLoa; first | exact ev_loadAggAt (agT rfl) (szT rfl) rfl (List.Mem.tail _ (List.Mem.tail _ (List.mem_append_left _ hm))) (fun i v h => g0 i v h _ (by omega)) rfl | exact ev_load (agT rfl) rfl (by repeat (first | exact List.Mem.head _ | apply List.Mem.tail)) rfl) | (apply gFie; first | exact ev_fieldAddr0 (fldT rfl) rfl) | (apply gBin; first | exact ev_nes rfl rfl | exact ev_lti rfl rfl | exact ev_add64 rfl rfl (by omega)) | (apply gIxA; first | exact ev_indexAddr (slT rfl) (szT rfl) rfl rfl (by omega)))))) | ((show W _ _ _ _ _ _ _ _ _); first | apply W.seq | apply W.region | apply W.block | apply W.blk | apply W.skip | (refine W.cond rfl ?_ ?_ <;> (intro h; try (exfalso; first | contradiction | omega | exact h rfl | exact h ⟨rfl, rfl⟩ | (simp_all; done))))))
    all_goals first
      | exact W.again (j + 1, o2) ⟨hlt, by show wrOk s5 (ptr s5) (prefT sw sh l (j + 1)) o2; first | (rw [e1 (by assumption)]; exact hok2) | (rw [e2 (by assumption)]; exact hok2) | (rw [e1 (Decidable.of_not_not (by assumption))]; exact hok2)⟩ (by show l.length - (j + 1) < l.length - j; omega) (by repeat (first | exact SubL.nil | refine SubL.cons rfl ?_)) (by
          show SubH (wrH _ s5 (ptr s5) (prefT sw sh l (j + 1)) o2 _) _
          first | rw [e1 (by assumption)] | rw [e2 (by assumption)] | rw [e1 (Decidable.of_not_not (by assumption))]
          exact List.Sublist.cons_cons _ (List.Sublist.cons _ (List.Sublist.refl _)))
      | fail
  · obtain rfl : j = l.length := by omega
    rw [hT]
    have hok2 := hok
    obtain ⟨P, hP⟩ : ∃ P, prefT sw sh l l.length = P := ⟨_, rfl⟩
    have hne : P ≠ [] := by rw [← hP]; unfold prefT; simp
    rw [hP] at hok2 hpj ⊢
    by_cases hlong : 262144 < P.length
    · rw [if_pos hlong]
      repeat' (first | (apply gL; first | (apply Wl.ev rfl rfl; (focus (first | (apply gFie; first | exact ev_fieldAddr0 (fldT rfl) rfl) | exact ev_assign rfl | (apply gBin; first | exact ev_lti rfl rfl | exact ev_gti rfl rfl)))) | ((show Wl _ _ _ _ _ _ _ (⟨_, .call ⟨.value (.func 44), _, _⟩, _, _, _, _⟩ :: _) _ _); refine wl_call0 rfl rfl has44 rfl (fun w hs => len_ok hok2 hs) ?_) | apply Wl.nil) | (apply gQ; first | (apply Wq.ev rfl rfl; (focus (first | (apply gFie; first | exact ev_fieldAddr0 (fldT rfl) rfl) | exact ev_assign rfl | (apply gBin; first | exact ev_lti rfl rfl | exact ev_gti rfl rfl))))) | ((show W _ _ _ _ _ _ _ _ _); first | apply W.seq | apply W.region | (refine W.exit rfl ?_) | (refine W.cond rfl ?_ ?_ <;> (intro h; try (exfalso; first | contradiction | omega | exact h rfl | exact h ⟨rfl, rfl⟩ | (simp_all; done)))) | (refine W.ret2 rfl rfl rfl ?_; intro w hs)))
      all_goals first | exact ret_eq hs rfl | (exfalso; omega) | fail
    · rw [if_neg hlong]
      repeat' (first | (apply gL; first | (apply Wl.ev rfl rfl; (focus (first | (apply gFie; first | exact ev_fieldAddr0 (fldT rfl) rfl) | exact ev_assign rfl | (apply gBin; first | exact ev_lti rfl rfl | exact ev_gti rfl rfl)))) | ((show Wl _ _ _ _ _ _ _ (⟨_, .call ⟨.value (.func 44), _, _⟩, _, _, _, _⟩ :: _) _ _); refine wl_call0 rfl rfl has44 rfl (fun w hs => len_ok hok2 hs) ?_) | ((show Wl _ _ _ _ _ _ _ (⟨_, .call ⟨.value (.func 36), _, _⟩, _, _, _, _⟩ :: _) _ _); refine wl_callS rfl rfl has36 rfl (fun w hs => builder_ok bt_w hok2.2 (.inl hne) (by omega) hs) ?_; rintro ⟨⟩ -) | apply Wl.nil) | (apply gQ; first | (apply Wq.ev rfl rfl; (focus (first | (apply gFie; first | exact ev_fieldAddr0 (fldT rfl) rfl) | exact ev_assign rfl | (apply gBin; first | exact ev_lti rfl rfl | exact ev_gti rfl rfl))))) | ((show W _ _ _ _ _ _ _ _ _); first | apply W.seq | apply W.region | apply W.skip | (refine W.exit rfl ?_) | (refine W.cond rfl ?_ ?_ <;> (intro h; try (exfalso; first | contradiction | omega | exact h rfl | exact h ⟨rfl, rfl⟩ | (simp_all; done)))) | (refine W.ret2 rfl rfl rfl ?_; intro w hs)))
      all_goals first | exact ret_eq hs rfl | (exfalso; omega) | fail
end Go.Proofs.YtdnicbbandbdbaaDoor
