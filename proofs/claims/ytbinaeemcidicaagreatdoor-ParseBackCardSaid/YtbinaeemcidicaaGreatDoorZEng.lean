/- A walk over symbolic states of the model: rules proved from the kit, of no program. No condition. -/
import Derived.WalkKit
import Derived.ScopeJumps
import Derived.Maps.RangeRun
import Derived.Lib.Bytealg
import Derived.Laws.AppendOwn
import Derived.Laws.RangeString
import Derived.Laws.RangeAny
import Derived.Laws.IdiomStrings
import Derived.Laws.BytesArg
import Derived.Handy
import Derived.Deep.Quiet
import Derived.OrdersHeld
import Derived.StillTail
theorem Zev {p : Prop} (h : p := by first | exact ev_move rfl | (apply gLoa; first | exact ev_load (agT rfl) rfl Zd rfl | exact ev_loadWhole (agT rfl) (szT rfl) rfl Zd rfl | (apply ev_loadAgg (agT rfl) (szT rfl) rfl Zd; (focus (simp; rfl)); exact Zmi)) | (apply gFie; first | exact ev_fieldAddr0 (fldT rfl) rfl | exact ev_fieldAddr (fldT rfl) rfl) | exact ev_assign rfl | (apply gPic; first | exact ev_pickT rfl rfl | exact ev_pickF rfl rfl) | (apply gBin; first | exact ev_eqi rfl rfl | exact ev_eqsT rfl rfl Zf6 | exact ev_eqsF rfl rfl Zf6 | exact ev_eqs rfl rfl | exact ev_nei rfl rfl | exact ev_nesF rfl rfl Zf6 | exact ev_lti rfl rfl | exact ev_lei rfl rfl | exact ev_gti rfl rfl | exact ev_gei rfl rfl | exact ev_add64 rfl rfl Zf7 | exact ev_sub64 rfl rfl Zf7 | exact ev_mul64 rfl rfl Zf7 | exact ev_addK rfl rfl Zd4 | exact ev_subK rfl rfl Zd4 | exact ev_cat rfl rfl (by (first | omega | (simp; omega))) | exact ev_eqFlatD (flatT rfl) rfl rfl rfl eqL_ii | exact ev_neb_self (boolT rfl) rfl rfl | exact ev_neb (boolT rfl) rfl rfl | exact ev_shl rfl rfl Zf6 | exact ev_add rfl rfl | exact ev_sub rfl rfl) | (apply gUn; first | exact ev_notT rfl | exact ev_notF rfl | exact ev_notD rfl | exact ev_notB rfl | exact ev_neg64 rfl Zf7 | exact ev_neg rfl) | exact ev_extract rfl rfl | (apply gBui; first | (apply ev_build (bldT rfl) rfl; simp [fillP]; rfl)) | (apply gCal; first | exact ev_len_slice (slT rfl) rfl | exact ev_len_string (strT rfl) rfl | exact ev_max rfl rfl | exact ev_min rfl rfl) | (apply gIxA; first | exact ev_indexAddr (slT rfl) (szT rfl) rfl rfl Zf7) | (apply gSli; first | exact ev_slice_string_lo (strT rfl) rfl rfl Zfe | exact ev_slice_string_hi (strT rfl) rfl rfl Zfe) | (apply gCon; first | exact ev_convK (dT rfl) (intT rfl) rfl Zd4) | (apply gNil; first | exact ev_nilCheck_ptr rfl | exact ev_nilCheck_func rfl) | (apply gNex; first | exact ev_nextStr_end rfl Zd Zf7) | (apply gFld; first | exact ev_field (fldT rfl) (agT rfl) rfl rfl)) : p := h
theorem Za {p : Prop} (h : p := by exfalso; first | contradiction | omega | exact h rfl | exact h ⟨rfl, rfl⟩ | (exact Bool.false_ne_true ((by assumption : _ = false).symm.trans h)) | (exact Bool.false_ne_true (h.symm.trans Zf5))) : p := h
theorem Zb {p : Prop} (h : p := by repeat (first | exact SubH.nil | apply SubH.keep | apply SubH.drop | exact List.Sublist.refl _ | exact List.sublist_append_right _ _ | exact List.sublist_append_left _ _)) : p := h
theorem Zc {p : Prop} (h : p := by intro p hp; repeat (first | exact hTA p hp | apply List.Mem.tail | apply List.mem_append_left)) : p := h
theorem Zd {p : Prop} (h : p := by repeat (first | exact List.Mem.head _ | apply List.Mem.tail)) : p := h
theorem Ze {p : Prop} (h : p := by repeat (first | exact SubH.nil | apply SubH.keep | apply SubH.drop | exact List.Sublist.refl _ | exact List.sublist_append_left _ _)) : p := h
theorem Zf {p : Prop} (h : p := by repeat (first | exact Upd.here | apply Upd.there)) : p := h
theorem Zg {p : Prop} (h : p := by exfalso; first | contradiction | omega | exact h rfl | exact h ⟨rfl, rfl⟩ | (simp_all <;> fail)) : p := h
theorem Zh {p : Prop} (h : p := by repeat (first | exact UpdT.here | apply UpdT.there)) : p := h
theorem Zi {p : Prop} (h : p := by first | exact hb | (refine Nat.le_trans ?_ hb; repeat (first | exact Nat.le_refl _ | apply le_puts))) : p := h
theorem Zj {p : Prop} (h : p := by kernel_rfl) : p := h
theorem Zk {p : Prop} (h : p := by decide +kernel) : p := h
theorem Zl {p : Prop} (h : p := by first | (apply gLoa; first | exact ev_loadAt (agT rfl) rfl Zge (hgt 0 _ rfl _ Zf7) | exact ev_loadAt (agT rfl) rfl Zge (hgt 1 _ rfl _ Zf7) | exact ev_loadAt (agT rfl) rfl Zge (hgt 2 _ rfl _ Zf7)) | exact Zev) : p := h
theorem Zm {p : Prop} (h : p := by intro p hp; repeat (first | exact hTA p hp | exact List.mem_append_left _ (hTA p hp) | exact List.mem_append_left _ (List.mem_append_left _ (hTA p hp)) | exact List.mem_append_left _ (List.mem_append_left _ (List.mem_append_left _ (hTA p hp))) | apply List.Mem.tail)) : p := h
theorem Zn {p : Prop} (h : p := by repeat (first | exact SubL.nil | refine SubL.cons rfl ?_)) : p := h
theorem Zo {p : Prop} (h : p := by intro e; rw [(p2 _).count_eq]; simp only [List.count_append, cnt_cons, List.count_nil]; omega) : p := h
theorem Zp {p : Prop} (h : p := by apply gLoa; first | exact ev_loadAt (agT rfl) rfl Zgw (gk _ Zf7) | exact ev_loadAt (agT rfl) rfl (by repeat (first | exact List.Mem.head _ | apply List.Mem.tail | apply List.mem_append_right)) (go _ Zf7) | exact ev_loadAt (agT rfl) rfl Zgr (gd _ Zf7)) : p := h
theorem Zq {p : Prop} (h : p := by repeat (first | rfl | refine all_one_cons ?_ ?_)) : p := h
theorem Zr {p : Prop} (h : p := by intro e; simp only [List.count_append, cnt_cons, List.count_nil]; omega) : p := h
theorem Zs {p : Prop} (h : p := by repeat (first | exact PrAt.here | apply PrAt.there)) : p := h
theorem Zt {p : Prop} (h : p := by simp [fillP, List.range_succ]; rfl) : p := h
theorem Zu {p : Prop} (h : p := by first | exact ev_makeFunc2 rfl rfl | exact Zev) : p := h
theorem Zv {p : Prop} (h : p := by repeat (first | exact True.intro | assumption | decide | refine ⟨?_, ?_⟩)) : p := h
theorem Zw {p : Prop} (h : p := by first | exact ev_loadAt (agT rfl) rfl (List.Mem.tail _ (List.Mem.tail _ (List.Mem.head _))) (lv_get hk6 _ Zf7) | exact Zev) : p := h
theorem Zx {p : Prop} (h : p := by first | exact ev_loadAt (agT rfl) rfl Zge (g0 _ Zf7) | exact Zev) : p := h
theorem Zy {p : Prop} (h : p := by exfalso; omega) : p := h
theorem Zz {p q r : Prop} (h : p) (g : q) (f : p → q → r := by refine W.cond rfl) : r := f h g
theorem Zba {p q : Prop} (h : p) (f : p → q := by refine W.ret1 rfl rfl) : q := f h
theorem Zbb {p : Prop} (h : p := by first | (apply gCal; first | exact (ev_min rfl rfl).to (congrArg (Value.int .i64) hm)) | exact ev_sliceHi (k := m) (slT rfl) (szT rfl) rfl rfl rfl Zf7 | exact ev_makeFunc2 rfl rfl | exact Zev) : p := h
theorem Zbc {p : Prop} (h : p := by repeat (first | exact htA | apply List.Mem.tail | apply List.mem_append_left)) : p := h
theorem Zbd {p q : Prop} (h : p) (f : p → q := by refine wl_alloc rfl rfl (zeroT rfl)) : q := f h
theorem Zbe {p : Prop} (h : p := by first | decide | (simp <;> fail)) : p := h
theorem Zbf {p : Prop} (h : p := by repeat (first | exact SubH.nil | apply SubH.keep | apply SubH.drop | exact List.Sublist.refl _)) : p := h
theorem Zbg {p q : Prop} (h : p) (f : p → q := by refine W.condF rfl) : q := f h
theorem Zbh {p : Prop} (h : p := by first | (apply gIdx; first | exact (ev_index_string (strT rfl) rfl rfl Zf7).to (show _ = by8 (l.getD D 0) from rfl) | exact (ev_index_string (strT rfl) rfl rfl (by first | omega | (simp; omega))).to (show _ = by8 (T.getD 0 0) from rfl)) | exact Zju | exact Zev) : p := h
theorem Zbi {p : Prop} (h : p := by first | exact Zl1 | (apply gSli; first | exact (ev_slice_string_lo (strT rfl) rfl rfl Zf7).to (show _ = st l from by rw [← hls]; rfl) | exact (ev_slice_string_hi (strT rfl) rfl rfl Zf7).to (show _ = st T from by rw [← hT]; exact congrArg (fun k => st (l.take k)) Zf7) | exact (ev_slice_string_lo (strT rfl) rfl rfl Zf7).to (show _ = st (l.drop (D + 1)) from rfl)) | exact Zev) : p := h
theorem Zbj {p : Prop} (h : p := by first | (apply gLoa; first | exact (ev_loadAggAt (lv := [.int .i64 k1, st k2, st k3, .int .i32 k4, .slice kp k5.length kc, .int .i64 k6]) (agT rfl) (szT rfl) rfl (by repeat (first | exact hm | apply List.Mem.tail)) (fun i v h => g0 i v h _ Zf7) rfl) | exact (ev_loadAggAt (lv := [.int .i64 j1, st j2, st j3, .int .i32 j4, .slice jp j5.length jc, .int .i64 j6]) (agT rfl) (szT rfl) rfl (by repeat (first | exact hm' | apply List.Mem.tail)) (fun i v h => g1 i v h _ Zf7) rfl)) | exact Zev) : p := h
theorem Zbk {p q : Prop} (h : p) (f : p → q := by refine W.condT rfl) : q := f h
theorem Zbl {p : Prop} (h : p := by first | exact ev_loadAt (agT rfl) rfl Zg8 (g0 _ Zf7) | exact Zev) : p := h
theorem Zbm {p : Prop} (h : p := by exact fun w hs => pmade hs _ _ _ _ _ _) : p := h
theorem Zbn {p q : Prop} (h : p) (f : p → q := by refine Wm.chk rfl rfl) : q := f h
theorem Zbo {p : Prop} (h : p := by first | (apply gBin; first | exact (ev_eqi rfl rfl).to (congrArg Value.bool (decide_eq_false k2)) | exact (ev_eqi rfl rfl).to (congrArg Value.bool (decide_eq_false k4)) | exact (ev_eqi rfl rfl).to (congrArg Value.bool (decide_eq_false k5))) | exact Zev) : p := h
theorem Zbp {p : Prop} (h : p := by first | exact ev_load (agT rfl) rfl (by repeat (first | exact tn_head | apply List.Mem.tail)) rfl | exact Zev) : p := h
theorem Zbq {p : Prop} (h : p := by first | (apply gSli; first | exact (ev_slice_string_lo (strT rfl) rfl rfl Zf7).to (show _ = st (s.drop j) from rfl) | exact (ev_slice_string_lo (strT rfl) rfl rfl Zf7).to (show _ = st l from by rw [← hls]; rfl)) | exact Zev) : p := h
theorem Zbr {p q : Prop} (h : p) (f : p → q := by refine Wl.skip rfl rfl) : q := f h
theorem Zbs {p : Prop} (h : p := by repeat (first | exact lv_mem (x := (tb, q)) hk6 | apply List.Mem.tail | apply List.mem_append_right)) : p := h
theorem Zbt {p : Prop} (h : p := by first | exact ev_loadAt (agT rfl) rfl Zgw (gk _ Zf7) | exact Zev) : p := h
theorem Zbu {p q : Prop} (h : p) (f : p → q := by refine calls_of_W (vs := [ptr r]) Tryz.func197 rfl Tryz.ntmps197 (Nat.le_of_ble_eq_true rfl) hst1.fromHere) : q := f h
theorem Zbv {p : Prop} (h : p := by first | (apply gSli; first | exact (ev_slice_string_lo (strT rfl) rfl rfl Zf7).to (show _ = st (s.drop j) from rfl) | exact (ev_slice_string_lo (strT rfl) rfl rfl Zf7).to (show _ = st l from by rw [← hls]; rfl) | exact (ev_slice_string_lo (strT rfl) rfl rfl Zja).to (show _ = st u from by rw [← hdl]; rfl)) | exact Zev) : p := h
theorem Zbw {p : Prop} (h : p := by repeat (first | exact TailUp.app | apply TailUp.there)) : p := h
theorem Zbx {p : Prop} (h : p := by first | (apply gLoa; first | exact ev_load (agT rfl) rfl Zhe rfl | exact ev_loadAggAt (lv := ndM kd ty tx nm (.slice q ks.length c) pl) (agT rfl) (szT rfl) rfl Zg8 (fun f u h => ga f u h _ Zf7) rfl) | exact Zev) : p := h
theorem Zby {p : Prop} (h : p := by first | (apply gBin; first | exact (ev_eqi rfl rfl).to (congrArg Value.bool (decide_eq_false hk3)) | exact (ev_eqi rfl rfl).to (congrArg Value.bool (decide_eq_false hk))) | exact Zev) : p := h
theorem Zbz {p q : Prop} (h : p) (f : p → q := by refine calls_of_W (vs := [ptr pb, .agg (ndL kd ty tx nm kv pl).toArray]) Tryz.func36 rfl Tryz.ntmps36 (Nat.le_of_ble_eq_true rfl) hst.fromHere) : q := f h
theorem Zb0 {p : Prop} (h : p := by apply gBin; first | exact (ev_eqi rfl rfl).to (congrArg Value.bool (show _ = decide (wv = 6) from decide_eq_decide.2 Zf7))) : p := h
theorem Zb1 {p q : Prop} (h : p) (f : p → q := by refine calls_of_W (vs := [ptr pb, .int .i64 (i : Nat)]) Tryz.func17 rfl Tryz.ntmps17 (Nat.le_of_ble_eq_true rfl) hst.fromHere) : q := f h
theorem Zb2 {p : Prop} (h : p := by exfalso; first | contradiction | (exact Bool.false_ne_true ((by assumption : _ = false).symm.trans h)) | (exact Bool.false_ne_true (h.symm.trans Zf5))) : p := h
theorem Zb3 {p : Prop} (h : p := by first | (apply gLoa; first | exact ev_loadAt (agT rfl) rfl (by repeat (first | exact hm | apply List.Mem.tail)) (g0 _ Zf7) | exact ev_loadAt (agT rfl) rfl (by repeat (first | exact hm' | apply List.Mem.tail)) (g1 _ Zf7)) | exact Zev) : p := h
theorem Zb4 {p : Prop} (h : p := by first | exact ev_loadAt (agT rfl) rfl Zgw (gk _ Zf7) | (apply gBin; first | exact (ev_nei rfl rfl).to (congrArg Value.bool (decide_eq_true hKn))) | exact Zev) : p := h
theorem Zb5 {p : Prop} (h : p := by intro e; rw [(p2 _).count_eq]; simp only [tnsH, List.append_nil, List.map_cons, List.map_nil, List.count_append, cnt_cons, List.count_nil]; omega) : p := h
theorem Zb6 {p : Prop} (h : p := by first | exact ev_loadAggAt (lv := ndM kd ty tx nm (.slice q ks.length c) pl) (agT rfl) (szT rfl) rfl Zgr (fun f u h => ga f u h _ Zf7) rfl | exact Zev) : p := h
theorem Zb7 {p : Prop} (h : p := by repeat (first | rfl | exact own_oneF _ _ | refine all_one_cons ?_ ?_)) : p := h
theorem Zb8 {p : Prop} (h : p := by exact fun w hs => hty w) : p := h
theorem Zb9 {p : Prop} (h : p := by intro p hp; repeat (first | exact hRA p hp | apply List.Mem.tail | apply List.mem_append_left)) : p := h
theorem Zca {p : Prop} (h : p := by exfalso; first | contradiction | (simp_all <;> fail)) : p := h
theorem Zcb {p : Prop} (h : p := by first | exact ev_load (agT rfl) rfl Zg1 rfl | exact ev_iface (show Program.underlying _ 141 = some _ from rfl) (by intro ms e; cases e) rfl | exact Zev) : p := h
theorem Zcc {p : Prop} (h : p := by first | (apply gSli; first | exact (ev_slice_string_hi (strT rfl) rfl rfl Zf7).to (show _ = st t from by rw [← ht]; exact congrArg (fun k => st (s.take k)) Zf7)) | exact Zev) : p := h
theorem Zcd {p : Prop} (h : p := by first | (apply gBin; first | exact (ev_eqi rfl rfl).to (congrArg Value.bool (decide_eq_true hk))) | exact Zev) : p := h
theorem Zce {p : Prop} (h : p := by first | (apply gSli; first | exact ev_slice_l (slT rfl) (szT rfl) rfl rfl Zf7 Zf7 | exact ev_sliceHi (k := n) (slT rfl) (szT rfl) rfl rfl rfl Zf7) | exact Zev) : p := h
theorem Zcf {p : Prop} (h : p := by first | exact ev_loadAggAt (lv := ndM kd ty tx nm (.slice q ks.length c) pl) (agT rfl) (szT rfl) rfl Zgr (fun f u h => ga f u h _ Zf7) rfl | exact Zlt | exact Zls | exact ev_makeFunc2 rfl rfl | exact Zev) : p := h
theorem Zcg {p : Prop} (h : p := by first | exact ev_loadAggAt (lv := ndM 4 ty tx nm (.slice q ks.length c) pl) (agT rfl) (szT rfl) rfl Zgr (fun f u h => ga f u h _ Zf7) rfl | exact Zlt | exact Zls | exact ev_makeFunc2 rfl rfl | exact Zev) : p := h
theorem Zch {p : Prop} (h : p := by intro e; simp only [List.count_append, cnt_cons, List.count_nil, tnsH_app, tnsH1]; omega) : p := h
theorem Zci {p : Prop} (h : p := by first | exact ev_load (agT rfl) rfl (by repeat (first | exact hb2 | apply List.Mem.tail)) rfl | exact Zev) : p := h
theorem Zcj {p : Prop} (h : p := by first | (apply gIdx; first | exact (ev_index_string (strT rfl) rfl rfl Zf7).to (show _ = Value.int .u8 (c0.toNat : Int) from by rw [← hc0]; rfl)) | exact Zev) : p := h
theorem Zck {p : Prop} (h : p := by rw [wanted_of hf hg]) : p := h
theorem Zcl {p : Prop} (h : p := by first | (apply gLoa; first | exact (ev_loadAggAt (agT rfl) (szT rfl) rfl hm (fun i v h => g0 i v h _ Zf7) rfl).to (show _ = tiV y from rfl)) | exact Zev) : p := h
theorem Zcm {p q : Prop} (h : p) (f : p → q := by refine W.exit rfl) : q := f h
theorem Zcn {p q : Prop} (h : p) (f : p → q := by refine calls_of_W (vs := [ptr r]) Tryz.func136 rfl Tryz.ntmps136 (Nat.le_of_ble_eq_true rfl) hst1.fromHere) : q := f h
theorem Zco {p : Prop} (h : p := by first | (apply gLoa; first | exact ev_load (agT rfl) rfl (List.Mem.tail _ hb2) rfl | exact ev_load (agT rfl) rfl (List.Mem.tail _ hb3) rfl) | exact Zev) : p := h
theorem Zcp {p : Prop} (h : p := by first | (apply gBin; first | exact (ev_and rfl rfl).to (and16_32 nm) | exact (ev_eqi rfl rfl).to (congrArg Value.bool (decide_eq_true h1))) | exact Zev) : p := h
theorem Zcq {p : Prop} (h : p := by first | exact ev_loadAt (agT rfl) rfl Zgw (g0 _ Zf7) | exact Zev) : p := h
theorem Zcr {p : Prop} (h : p := by first | exact ev_loadAt (agT rfl) rfl Zgr (gd _ Zf7) | exact Zev) : p := h
theorem Zcs {p : Prop} (h : p := by first | (apply gLoa; first | exact ev_load (agT rfl) rfl Zhe rfl | exact ev_loadAggAt (lv := ndM _ ty tx nm (.slice (some ⟨kb, koff, none⟩) ks.length c) pl) (agT rfl) (szT rfl) rfl Zg8 (fun f u h => ga f u h _ Zf7) rfl | exact ev_loadAt (agT rfl) rfl Zg9 (g0 _ Zf7)) | exact Zev) : p := h
theorem Zct {p : Prop} (h : p := by simpa using hd) : p := h
theorem Zcu {p : Prop} (h : p := by simp only [maxLen]; omega) : p := h
theorem Zcv {p : Prop} (h : p := by first | exact Zl1 | exact Zju | exact Zev) : p := h
theorem Zcw {p : Prop} (h : p := by first | exact ev_eqsF rfl rfl h0 | exact Zev) : p := h
theorem Zcx {p : Prop} (h : p := by intro p hp; repeat (first | exact hTA p hp | apply List.Mem.tail)) : p := h
theorem Zcy {p : Prop} (h : p := by first | (apply gBin; first | exact (ev_shr rfl rfl Zf6).to (show _ = Value.int .i64 (F : Int) from by rw [shr16_64]; exact hfr) | exact (ev_shr rfl rfl Zf6).to (show _ = Value.int .i64 ((M / 65536 : Nat) : Int) from by rw [shr16_64]; congr 1; omega) | exact (ev_and rfl rfl).to (show _ = Value.int .i64 ((M : Int) % 65536) from by rw [and16_64]; congr 1; omega)) | exact Zev) : p := h
theorem Zcz {p q : Prop} (h : p) (f : p → q := by refine calls_of_W (vs := [ptr pb, .agg (ndL kd ty tx nm kv pl).toArray]) Tryz.func35 rfl Tryz.ntmps35 (Nat.le_of_ble_eq_true rfl) hst.fromHere) : q := f h
theorem Zc0 {p : Prop} (h : p := by simp [Value.oneCell']) : p := h
theorem Zc1 {p q : Prop} (h : p) (f : p → q := by refine W.ret2 rfl rfl rfl) : q := f h
theorem Zc2 {p q : Prop} (h : p) (f : p → q := by refine calls_of_W (vs := [ptr r]) Tryz.func99 rfl Tryz.ntmps99 (Nat.le_of_ble_eq_true rfl) hst1.fromHere) : q := f h
theorem Zc3 {p : Prop} (h : p := by exact fun w hs => levels_ok hs (by repeat (first | apply AppT.there | exact AppT.base))) : p := h
theorem Zc4 {p q : Prop} (h : p) (f : p → q := by refine wl_box rfl rfl rfl rfl) : q := f h
theorem Zc5 {p q : Prop} (h : p) (f : p → q := by refine W.regionM [0] [(⟨b4, true, row [.int .i64 (k : Nat)] 3⟩ : Ent)] [(⟨b4, true, row [.int .i64 (k : Nat)] 3⟩ : Ent)] mixed) : q := f h
theorem Zc6 {p : Prop} (h : p := by exact fun w hs => put_top (t := t) hr (A := ⟨b3, true, row [.int .i64 0, .int .i64 0] 38⟩ :: ⟨b2, true, row [.slice none 0 0] 24⟩ :: A) hs (by intro e; simp only [flH, spC, ownV_none, ndKH_nil, List.length_nil, List.count_append, cnt_cons, List.count_nil, ownH_none]; omega) (fun e he => List.Mem.tail _ (List.Mem.tail _ (hm e he))) hok hb) : p := h
theorem Zc7 {p : Prop} (h : p := by exact fun w hs => hnod (cb := cb) (A' := (⟨b1, true, row [.slice (some ⟨b, off, none⟩) N.length c] 24⟩ : Ent) :: A) hs (hT.mono (fun e he => List.Mem.tail _ he))) : p := h
theorem Zc8 {p q : Prop} (h : p) (f : p → q := by refine W.reC (H' := ⟨b3, true, row [.int .i64 (k : Nat)] 3⟩ :: ⟨b2, true, row [ptr r] 73⟩ :: ⟨r, true, rdP lv (L.length - l7.length)⟩ :: ((A ++ tnH (tnNew bn 15 [] s6.t 0 s6.a b 2 [t, t1])) ++ lvH (tb, q))) (by rw [tnH_new (n := 2) rfl]; intro e; simp only [List.count_append, cnt_cons, List.count_nil, List.map_cons, List.map_nil, tnsH, List.append_nil]; omega)) : q := f h
theorem Zc9 {p : Prop} (h : p := by first | (apply gSli; first | exact (ev_slice_string_lo (strT rfl) rfl rfl Zf7).to (show _ = st l from by rw [← hls]; rfl) | exact (ev_slice_string (strT rfl) rfl rfl rfl Zf7).to (show _ = st (l.take N) from by rw [← hls, ← drop_take' i N s]; exact congrArg (fun k => st ((s.take k).drop i)) Zf7)) | exact Zev) : p := h
theorem Zda {p : Prop} (h : p := by first | (apply gBin; first | exact (ev_gti rfl rfl).to (congrArg Value.bool (decide_eq_false hdp))) | exact Zev) : p := h
theorem Zdb {p : Prop} (h : p := by first | (apply gBin; first | exact (ev_eqi rfl rfl).to (congrArg Value.bool (decide_eq_false hk))) | exact Zev) : p := h
theorem Zdc {p : Prop} (h : p := by intro e; rw [(p2 _).count_eq]; simp only [tnH, tnsH, ownH, List.count_append, cnt_cons, List.count_nil]; omega) : p := h
theorem Zdd {p : Prop} (h : p := by intro e; rw [(p2 _).count_eq, tnH]; simp only [ownV, ownH, List.count_append, cnt_cons, List.count_nil]; omega) : p := h
theorem Zde {p : Prop} (h : p := by first | exact ev_len_own (slT rfl) hok rfl | exact Zev) : p := h
theorem Zdf {p q : Prop} (h : p) (f : p → q := by refine calls_of_W (vs := [ptr r, .int .i64 (k : Nat)]) Tryz.func164 rfl Tryz.ntmps164 (Nat.le_of_ble_eq_true rfl) hst1.fromHere) : q := f h
theorem Zdg {p : Prop} (h : p := by first | exact ev_load (agT rfl) rfl Zg1 rfl | exact Zev) : p := h
theorem Zdh {p : Prop} (h : p := by first | exact ev_loadAt (agT rfl) rfl Zgr (gd _ Zf7) | (apply gBin; first | exact (ev_nei rfl rfl).to (congrArg Value.bool (decide_eq_true h19)) | exact (ev_nei rfl rfl).to (congrArg Value.bool (decide_eq_true h18))) | exact Zev) : p := h
theorem Zdi {p : Prop} (h : p := by rw [← hkj]; unfold intV; simp [List.getD, hlt]) : p := h
theorem Zdj {p : Prop} (h : p := by first | (apply gLoa; first | exact ev_loadAt (agT rfl) rfl Zg9 (g0 3 _ rfl _ Zf7) | exact ev_loadAt (agT rfl) rfl Zg9 (g0 1 _ rfl _ Zf7)) | exact Zev | exact ne_nil rfl) : p := h
theorem Zdk {p : Prop} (h : p := by first | exact ev_loadAt (agT rfl) rfl Zgw (g0 _ Zf7) | (apply gBin; first | exact ev_eqsF rfl rfl h0 | exact ev_eqsF rfl rfl n1 | exact ev_eqsF rfl rfl n2 | exact ev_eqsF rfl rfl n3) | exact Zev) : p := h
theorem Zdl {p q : Prop} (h : p) (f : p → q := by refine W.end0 rfl) : q := f h
theorem Zdm {p : Prop} (h : p := by first | (apply gBin; first | exact (ev_eqi rfl rfl).to (congrArg Value.bool (decide_eq_false k2)) | exact (ev_eqi rfl rfl).to (congrArg Value.bool (decide_eq_false k4)) | exact (ev_eqi rfl rfl).to (congrArg Value.bool (decide_eq_false k5)) | exact ev_nesT rfl rfl h) | exact Zev) : p := h
theorem Zdn {p q : Prop} (h : p) (f : p → q := by refine calls_of_W (vs := [ptr r]) Tryz.func182 rfl Tryz.ntmps182 (Nat.le_of_ble_eq_true rfl) hst1.fromHere) : q := f h
theorem Zdo {p q : Prop} (h : p) (f : p → q := by refine calls_of_W (vs := [ptr r]) Tryz.func181 rfl Tryz.ntmps181 (Nat.le_of_ble_eq_true rfl) hst1.fromHere) : q := f h
theorem Zdp {p q : Prop} (h : p) (f : p → q := by refine calls_of_W (vs := [ptr r]) Tryz.func162 rfl Tryz.ntmps162 (Nat.le_of_ble_eq_true rfl) hst1.fromHere) : q := f h
theorem Zdq {p : Prop} (h : p := by exfalso; simp_all; done) : p := h
theorem Zdr {p : Prop} (h : p := by intro e; simp only [List.append_eq, List.count_append, cnt_cons, List.count_nil]; omega) : p := h
theorem Zds {p : Prop} (h : p := by exact fun w hs => (hcf w hs).mono fun e w' hR => ⟨(), trivial, hR.1, hs.ext hR.2⟩) : p := h
theorem Zdt {p q : Prop} (h : p) (f : p → q := by refine calls_of_W (vs := [ptr b, .int .i64 (d : Nat), ptr sb, ptr tb, ptr pb]) Tryz.func54 rfl Tryz.ntmps54 (Nat.le_of_ble_eq_true rfl) hst1.fromHere) : q := f h
theorem Zdu {p : Prop} (h : p := by first | (apply gLoa; first | exact ev_load (agT rfl) rfl (List.Mem.tail _ hr') rfl | exact (ev_loadAggAt (agT rfl) (szT rfl) rfl (List.Mem.tail _ (hm' _ hmm)) (fun i v h => g0 i v h _ Zf7) rfl).to (show _ = tiV t from rfl)) | exact Zev) : p := h
theorem Zdv {p : Prop} (h : p := by exact fun w hs => pnm w Zf5) : p := h
theorem Zdw {p : Prop} (h : p := by repeat (first | exact kmem | apply List.Mem.tail | apply List.mem_append_left)) : p := h
theorem Zdx {p q : Prop} (h : p) (f : p → q := by refine calls_of_WD (vs := [ptr cb, .int .i64 (i : Nat), .bool wide]) Tryz.func37 rfl Tryz.ntmps37 (Nat.le_of_ble_eq_true rfl) hst.fromHere) : q := f h
theorem Zdy {p : Prop} (h : p := by first | (apply gSli; first | exact (ev_slice_string (strT rfl) rfl rfl rfl Zf7).to (show _ = st (l.take N) from by rw [← hls, ← drop_take' i N s]; exact congrArg (fun k => st ((s.take k).drop i)) Zf7)) | exact Zev) : p := h
theorem Zdz {p : Prop} (h : p := by first | (apply gSli; first | exact (ev_slice_string (strT rfl) rfl rfl rfl Zf7).to (show _ = st ((s.take (i + n)).drop i) from by rw [show ((i : Int) + (n : Int)).toNat = i + n by omega, Int.toNat_natCast])) | exact Zev) : p := h
theorem Zd0 {p : Prop} (h : p := by exact fun w hs => ckT_ok hz hs (hT.mono (fun e he => List.Mem.tail _ he))) : p := h
theorem Zd1 {p : Prop} (h : p := by show SubH (prH lv pb (putsS s (ss.take (j + 1))) o2 A) _; rw [prH_next hnx ht0 hk]; exact List.Sublist.refl _) : p := h
theorem Zd2 {p : Prop} (h : p := by first | exact ev_loadAt (agT rfl) rfl htb (g0 _ Zf7) | exact Zev) : p := h
theorem Zd3 {p : Prop} (h : p := by first | exact ev_loadAt (agT rfl) rfl Zg8 (g0 _ Zf7) | (apply gBin; first | exact (ev_nei rfl rfl).to (congrArg Value.bool (decide_eq_true h1))) | exact Zev) : p := h
theorem Zd4 {p : Prop} (h : p := by first | exact wrap64_in Zf7 | exact IntWalk.u8_in _ Zf7 | exact IntWalk.i32_in _ Zf7) : p := h
theorem Zd5 {p : Prop} (h : p := by rw [hv]; simp [hp]) : p := h
theorem Zd6 {p : Prop} (h : p := by intro p hp; repeat (first | exact hRA p hp | apply List.Mem.tail)) : p := h
theorem Zd7 {p : Prop} (h : p := by intro e; rw [(p2 _).count_eq, tnH]; simp only [List.count_append, cnt_cons, List.count_nil]; omega) : p := h
theorem Zd8 {p : Prop} (h : p := by rw [tnsH_app, tnsH1, tnH_new (n := 1) rfl, tnsH1]; intro e; simp only [dcl, row_nd, tnsH, List.append_nil, List.map_cons, List.map_nil, List.count_append, cnt_cons, List.count_nil]; omega) : p := h
theorem Zd9 {p : Prop} (h : p := by intro e; rw [(p2 _).count_eq, tnH]; simp only [List.length_cons, List.length_nil, Nat.reduceAdd, Nat.zero_add, tnsH, List.append_nil, List.count_append, cnt_cons, List.count_nil]; omega) : p := h
theorem Zea {p : Prop} (h : p := by exact fun w hs => hck w hs (fun e he => by repeat (first | exact he | apply List.Mem.tail))) : p := h
theorem Zeb {p : Prop} (h : p := by exact fun w hs => hct w hs (fun e he => by repeat (first | exact he | apply List.Mem.tail))) : p := h
theorem Zec {p : Prop} (h : p := by first | (apply gBin; first | exact (ev_eqi rfl rfl).to (congrArg Value.bool (decide_eq_false e7)) | exact (ev_eqi rfl rfl).to (congrArg Value.bool (decide_eq_false h13))) | exact Zev) : p := h
theorem Zed {p : Prop} (h : p := by first | (apply gBin; first | exact (ev_eqi rfl rfl).to (congrArg Value.bool (decide_eq_false h1)) | exact (ev_eqi rfl rfl).to (congrArg Value.bool (decide_eq_false h4))) | exact Zev) : p := h
theorem Zee {p : Prop} (h : p := by first | (apply gBin; first | exact (ev_eqi rfl rfl).to (congrArg Value.bool (decide_eq_true hk3)) | exact (ev_eqi rfl rfl).to (congrArg Value.bool (decide_eq_false hk))) | exact Zev) : p := h
theorem Zef {p : Prop} (h : p := by first | (apply gBin; first | exact (ev_gei rfl rfl).to (congrArg Value.bool (decide_eq_true ha0)) | exact (ev_lei rfl rfl).to (congrArg Value.bool (decide_eq_true ha2))) | exact Zev) : p := h
theorem Zeg {p : Prop} (h : p := by first | (apply gBin; first | exact (ev_eqi rfl rfl).to (congrArg Value.bool (decide_eq_true h1)) | exact (ev_eqi rfl rfl).to (congrArg Value.bool (decide_eq_false h4))) | exact Zev) : p := h
theorem Zeh {p : Prop} (h : p := by intro e; rw [p2.count_eq]; simp only [List.count_append, cnt_cons, List.count_nil]; omega) : p := h
theorem Zei {p : Prop} (h : p := by rw [hx]; first | rfl | exact decide_eq_true Zf7 | exact decide_eq_false Zf7) : p := h
theorem Zej {p : Prop} (h : p := by unfold saidT; simp) : p := h
theorem Zek {p q : Prop} (h : p) (f : p → q := by refine Wq.skip rfl rfl) : q := f h
theorem Zel {p : Prop} (h : p := by rw [tnsH_app, tnsH1, tnH_leaf]; intro e; simp only [dcl, row_nd, tnsH, List.append_nil, List.map_cons, List.map_nil, List.count_append, cnt_cons, List.count_nil]; omega) : p := h
theorem Zem {p q : Prop} (h : p) (f : p → q := by refine calls_of_W (vs := [ptr r]) Tryz.func135 rfl Tryz.ntmps135 (Nat.le_of_ble_eq_true rfl) hst1.fromHere) : q := f h
theorem Zen {p q : Prop} (h : p) (f : p → q := by refine calls_of_W (vs := [ptr b2]) Tryz.func96 rfl Tryz.ntmps96 (Nat.le_of_ble_eq_true rfl) hst1.fromHere) : q := f h
theorem Zeo {p : Prop} (h : p := by intro e; rw [(p2 _).count_eq]; ((try intro e); simp only [List.count_append, cnt_cons, List.count_nil, ownH, tnsH, tnsH_app, tnsH1, List.append_nil]; omega)) : p := h
theorem Zep {p : Prop} (h : p := by first | (apply gIdx; first | exact (ev_index_string (strT rfl) rfl rfl Zf7).to (show _ = by8 (s.getD (i + n) 0) from getB Zf7)) | exact Zev) : p := h
theorem Zeq {p : Prop} (h : p := by first | (apply gBin; first | exact (ev_and rfl rfl).to (and16_32 nm) | exact (ev_eqi rfl rfl).to (congrArg Value.bool (decide_eq_false h1))) | exact Zev) : p := h
theorem Zer {p : Prop} (h : p := by first | (apply gBin; first | exact (ev_sub64 rfl rfl Zf7).to (congrArg (Value.int .i64) (show _ = ((d : Nat) : Int) from by omega))) | exact Zev) : p := h
theorem Zes {p : Prop} (h : p := by first | exact ev_loadAt (agT rfl) rfl Zg9 (g0 3 _ rfl _ Zf7) | exact Zev | exact ne_nil rfl) : p := h
theorem Zet {p : Prop} (h : p := by exact fun w hs => (show Calls _ _ _ _ (Give (st (49 :: Pd)) w) from by rw [← hd6]; exact fmt_ok _ (100000 + F) Zf7 Zf7 w (hp.st hs))) : p := h
theorem Zeu {p : Prop} (h : p := by simp only [leastN, List.length_drop] at *; omega) : p := h
theorem Zew {p : Prop} (h : p := by rw [hv, hb]) : p := h
theorem Zex {p : Prop} (h : p := by exact fun w hs => (show Calls _ _ _ _ (Give (st Dg) w) from by rw [← hDg]; exact fmt_ok _ (M / 65536) Zf7 Zf7 w (hp.st hs))) : p := h
theorem Zey {p : Prop} (h : p := by exact fun w hs => (hcf w hs (fun e he => List.Mem.tail _ (List.Mem.tail _ he))).mono fun e w' hR => ⟨(), trivial, hR.1, hs.ext hR.2⟩) : p := h
theorem Zez {p : Prop} (h : p := by first | (apply gIdx; first | exact (ev_index_string (strT rfl) rfl rfl Zf7).to (show _ = by8 (l.getD i 0) from rfl)) | exact Zev) : p := h
theorem Ze0 {p : Prop} (h : p := by first | (apply gSli; first | exact (ev_slice_string_lo (strT rfl) rfl rfl Zf7).to (show _ = st (s.drop j) from rfl)) | exact Zev) : p := h
theorem Ze1 {p : Prop} (h : p := by first | exact ev_load (agT rfl) rfl hm rfl | exact ev_ptrNil Zmi rfl rfl | exact ev_ptrSame Zmi (szT rfl) rfl rfl | exact Zev) : p := h
theorem Ze2 {p : Prop} (h : p := by exact fun w hs => lxg w (hm.st hs Zgh)) : p := h
theorem Ze3 {p : Prop} (h : p := by unfold lastK; simp) : p := h
theorem Ze4 {p : Prop} (h : p := by first | (apply gCon; first | exact (ev_conv (dT rfl) (intT rfl) rfl).to (congrArg (Value.int .u64) (u64_in Zf7))) | exact Zev) : p := h
theorem Ze5 {p : Prop} (h : p := by exact fun w hs => hop hs hcm (hT.mono (fun e he => List.Mem.tail _ (List.Mem.tail _ (List.Mem.tail _ (List.mem_append_left _ he)))))) : p := h
theorem Ze6 {p : Prop} (h : p := by show g < g + 1; omega) : p := h
theorem Ze7 {p : Prop} (h : p := by simp only [baseN, cntL, cntL_app, List.length_drop] at *; omega) : p := h
theorem Ze8 {p : Prop} (h : p := by exact fun w hs => Check_ok (N := N2.map plaV) g5 hs (hT2.mono (fun e he => by repeat (first | exact he | apply List.Mem.tail)))) : p := h
theorem Ze9 {p : Prop} (h : p := by exact fun w hs => Depth_ok (N := N2.map plaV) g5 hs (hT2.mono (fun e he => by repeat (first | exact he | apply List.Mem.tail)))) : p := h
theorem Zfa {p : Prop} (h : p := by intro e; simp only [List.count_append, cnt_cons, List.count_nil, ndKH_app, ndKH_cons, ndKH_nil, ownH_none, ownH_some]; omega) : p := h
theorem Zfb {p : Prop} (h : p := by rw [kids_len]; exact hln) : p := h
theorem Zfc {p : Prop} (h : p := by exact fun w hs => hft w) : p := h
theorem Zfd {p : Prop} (h : p := by first | (apply gBin; first | exact (ev_eqi rfl rfl).to (congrArg Value.bool (decide_eq_false Zf7))) | exact Zev) : p := h
theorem Zfe {p : Prop} (h : p := by first | omega | (simp <;> fail) | (simp; omega) | (simp [*] <;> fail) | (simp [*]; omega) | (simp_all <;> fail) | (simp_all; omega)) : p := h
theorem Zff {p : Prop} (h : p := by first | (apply gBin; first | exact (ev_eqi rfl rfl).to (congrArg Value.bool (decide_eq_false n3))) | exact Zev) : p := h
theorem Zfg {p : Prop} (h : p := by first | (apply gBin; first | exact (ev_eqi rfl rfl).to (congrArg Value.bool (decide_eq_true h4))) | exact Zev) : p := h
theorem Zfh {p : Prop} (h : p := by show Value.tuple _ = Value.tuple _; rw [decide_eq_false (by first | omega | (dsimp only [nodV]; omega))]; rfl) : p := h
theorem Zfi {p : Prop} (h : p := by first | (simp <;> fail) | (simp; omega)) : p := h
theorem Zfj {p : Prop} (h : p := by rw [← hlen, len_snoc ts]; intro e; simp only [dcl, List.count_append, cnt_cons, List.count_nil]; omega) : p := h
theorem Zfk {p : Prop} (h : p := by intro e; rw [e] at hne; cases hne) : p := h
theorem Zfl {p q : Prop} (h : p) (f : p → q := by refine lD 90) : q := f h
theorem Zfm {p : Prop} (h : p := by exact fun w hs => shad_some (b5 := b5) (b3 := b3) (b2 := b2) (b1 := b1) (A := A) e hs hv hlim hxs) : p := h
theorem Zfn {p q : Prop} (h : p) (f : p → q := by refine lB 3) : q := f h
theorem Zfo {p : Prop} (h : p := by first | (apply gBin; first | exact ev_eqsF rfl rfl h0 | exact ev_eqsF rfl rfl h1) | exact Zev) : p := h
theorem Zfp {p : Prop} (h : p := by first | (apply gBin; first | exact (ev_shr rfl rfl Zf6).to (shr16_32 _)) | exact Zev) : p := h
theorem Zfq {p : Prop} (h : p := by rw [List.length_map]; exact hi) : p := h
theorem Zfr {p : Prop} (h : p := by exact fun w hs => h2 w) : p := h
theorem Zfs {p q r : Prop} (h : p) (g : q) (f : p → q → r := by refine W.condB rfl) : r := f h g
theorem Zft {p : Prop} (h : p := by simp only [Op.stringOp, bytes_toList, Sem.run_pure]; by_cases e : l = m <;> simp [e]) : p := h
theorem Zfu {p : Prop} (h : p := by rw [← hX]; rfl) : p := h
theorem Zfv {p : Prop} (h : p := by exact fun w hs => writeString_ok (A := A) (o := o1) t ht0 htl (.inr rfl) hok1 hn1 hs) : p := h
theorem Zfw {p : Prop} (h : p := by simpa [bytes_size] using hi) : p := h
theorem Zfx {p q : Prop} (h : p) (f : p → q := by refine calls_of_W (vs := [ptr r, fnV F bs cs]) Tryz.func95 rfl Tryz.ntmps95 (Nat.le_of_ble_eq_true rfl) hst1.fromHere) : q := f h
theorem Zfy {p : Prop} (h : p := by first | (apply gBin; first | exact (ev_and rfl rfl).to (and16_32 0)) | exact Zev) : p := h
theorem Zfz {p : Prop} (h : p := by first | exact ev_rowOf_nil rfl | exact ev_unsafeString_nil rfl rfl | exact Zev) : p := h
theorem Zf0 {p q : Prop} (h : p) (f : p → q := by refine lC 12 98) : q := f h
theorem Zf1 {p : Prop} (h : p := by exact fun w hs => hkin hs) : p := h
theorem Zf2 {p q : Prop} (h : p) (f : p → q := by refine calls_of_W (vs := [ptr r, tiV t0]) Tryz.func61 rfl Tryz.ntmps61 (Nat.le_of_ble_eq_true rfl) hst1.fromHere) : q := f h
theorem Zf3 {p : Prop} (h : p := by show ¬((decide ((wd ty).k = 1) && isQua (wd ty).t) = true); rw [hq]; decide) : p := h
theorem Zf4 {p : Prop} (h : p := by exact fun w hs => Check_ok hz hs (hT.mono (fun e he => List.Mem.tail _ he))) : p := h
theorem Zf5 {p : Prop} (h : p := by assumption) : p := h
theorem Zf6 {p : Prop} (h : p := by decide) : p := h
theorem Zf7 {p : Prop} (h : p := by omega) : p := h
theorem Zf8 {p q : Prop} (h : p) (f : p → q := by refine wl_storeWhole rfl rfl rfl (szT rfl) Zq Zf Zmi) : q := f h
theorem Zf9 {p q : Prop} (h : p) (f : p → q := by refine wl_store1 rfl rfl rfl rfl (szT rfl) Zf Zbe) : q := f h
theorem Zga {p q r : Prop} (h : p) (g : q) (f : p → q → r := by refine Wm.splitB Zj rfl rfl rfl) : r := f h g
theorem Zgb {p q : Prop} (h : p) (f : p → q := by refine wl_storeWhole rfl rfl rfl (szT rfl) rfl Zf Zmi) : q := f h
theorem Zgc {p q r : Prop} (h : p) (g : q) (f : p → q → r := by refine Wm.split Zj rfl rfl rfl) : r := f h g
theorem Zgd {p : Prop} (h : p := by first | (apply gLoa; first | exact (ev_loadAggAt (lv := [.int .i64 kd, st ty, st tx, .int .i32 nm, .slice none 0 0, .int .i64 pl]) (agT rfl) (szT rfl) rfl Zd (fun j v h => pre_get (l := [.int .i64 kd, st ty, st tx, .int .i32 nm, .slice none 0 0, .int .i64 pl, .slice kp ts.length kc]) (n := 6) h) rfl)) | exact ev_len_slice (slT rfl) (congrArg some hlv) | exact Zev) : p := h
theorem Zge {p : Prop} (h : p := by repeat (first | exact hmA | apply List.Mem.tail | apply List.mem_append_left)) : p := h
theorem Zgf {p q : Prop} (h : p) (f : p → q := by refine W.regionQ mixed Zj) : q := f h
theorem Zgg {p q : Prop} (h : p) (f : p → q := by refine Wm.all Zmi Zk) : q := f h
theorem Zgh {p : Prop} (h : p := by simp) : p := h
theorem Zgi {p : Prop} (h : p := by first | exact ev_load agF rfl Zd rfl | exact ev_makeFunc2 rfl rfl | exact Zev) : p := h
theorem Zgj {p q : Prop} (h : p) (f : p → q := by refine wl_store1 rfl rfl rfl (own_one _ _) (szT rfl) Zf Zbe) : q := f h
theorem Zgk {p q : Prop} (h : p) (f : p → q := by refine wl_call0 rfl rfl has43 rfl Zgu) : q := f h
theorem Zgl {p q : Prop} (h : p) (f : p → q := by refine wl_call0 rfl rfl has43 rfl Zgv) : q := f h
theorem Zgm {p q : Prop} (h : p) (f : p → q := by refine wl_storeWhole rfl rfl rfl (szT rfl) Zb7 Zf Zmi) : q := f h
theorem Zgn {p : Prop} (h : p := by first | (apply gLoa; first | exact ev_loadAt (agT rfl) rfl Zdw hkp | exact ev_loadAt (agT rfl) rfl Zd hcell | exact ev_load agF rfl Zd rfl) | exact Zev) : p := h
theorem Zgo {p : Prop} (h : p := by exact fun w hs => par_tree (C := [⟨b4, true, row [.int .i64 0, .int .i64 (p : Nat)] 38⟩, (⟨0, false, .cells arr et fr⟩ : Ent), (⟨g, false, .cells (Lib.pow10Tab.map fun z => Value.int .u64 z).toArray pet pfr⟩ : Ent)]) rfl hR (L := T.map tiOf) (fun t ht => ht) (by rw [List.length_map]; exact hlen) hF hp hs (⟨arr, et, fr, false, m, Zd, h1⟩ : MxE _) (hrd hs (fun e he => by repeat (first | exact he | apply List.Mem.tail)))) : p := h
theorem Zgp {p q : Prop} (h : p) (f : p → q := by refine W.retct rfl rfl (agT rfl) Zd (szT rfl) rfl) : q := f h
theorem Zgq {p q : Prop} (h : p) (f : p → q := by refine Wm.done Zk) : q := f h
theorem Zgr {p : Prop} (h : p := by repeat (first | exact htm | apply List.Mem.tail | apply List.mem_append_left)) : p := h
theorem Zgs {p q : Prop} (h : p) (f : p → q := by refine Wm.not Zk) : q := f h
theorem Zgt {p q : Prop} (h : p) (f : p → q := by refine Wl.nilM Zb Zb) : q := f h
theorem Zgu {p : Prop} (h : p := by exact fun w hs => p0 w (hs.get Zd)) : p := h
theorem Zgv {p : Prop} (h : p := by exact fun w hs => p1 w (hs.get Zd)) : p := h
theorem Zgw {p : Prop} (h : p := by repeat (first | exact hmm | apply List.Mem.tail | apply List.mem_append_left)) : p := h
theorem Zgx {p : Prop} (h : p := by exact fun w hs => hcall (A' := ⟨b7, true, row (ndM kd ty tx nm (.slice (some ⟨kb, koff, none⟩) ks.length c) pl) 47⟩ :: ⟨b3, true, row [ptr cb] 85⟩ :: (A ++ [⟨ob, true, .cells ocur 3 (0, 0)⟩])) (hs.subc Zr) (hT.mono (fun e he => List.Mem.tail _ (List.Mem.tail _ (List.mem_append_left _ he))))) : p := h
theorem Zgy {p : Prop} (h : p := by exact fun w hs => hcall (A' := ⟨b7, true, row (ndM 4 ty tx nm (.slice (some ⟨kb, koff, none⟩) ks.length c) pl) 47⟩ :: ⟨b3, true, row [ptr cb] 85⟩ :: (A ++ [⟨ob, true, .cells ocur 3 (0, 0)⟩])) (hs.subc Zr) (hT.mono (fun e he => List.Mem.tail _ (List.Mem.tail _ (List.mem_append_left _ he))))) : p := h
theorem Zgz {p : Prop} (h : p := by show SubH (prH lv pb (putsS (putsS s pre) (K.take (j + 1)).flatten) oq A) _; rw [hnx]; exact Zbf) : p := h
theorem Zg0 {p : Prop} (h : p := by first | exact Zp | exact Zb0 | exact Zev) : p := h
theorem Zg1 {p : Prop} (h : p := by repeat (first | exact hr | apply List.Mem.tail)) : p := h
theorem Zg2 {p : Prop} (h : p := by rw [hp]; exact Zbf) : p := h
theorem Zg3 {p : Prop} (h : p := by exact fun w hs => Print_ok (N := N2.map plaV) g5 hs (hT2.mono (fun e he => by repeat (first | exact he | apply List.Mem.tail))) (⟨g, pet, pfr, false, hgn, Zd⟩ : PowE _) g2 g3 g4 htl9) : p := h
theorem Zg4 {p : Prop} (h : p := by exact fun w hs => skK w (hs.get Zd)) : p := h
theorem Zg5 {p q : Prop} (h : p) (f : p → q := by refine Wl.nilM Ze Ze) : q := f h
theorem Zg6 {p : Prop} (h : p := by show SubH (prH lv pb (putsS s (comS (K.take (j + 1)))) oq A) _; rw [hnx]; (repeat (first | exact SubH.nil | apply SubH.keep | apply SubH.drop | exact List.Sublist.refl _))) : p := h
theorem Zg7 {p q : Prop} (h : p) (f : p → q := by refine W.reC (H' := ⟨b3, true, row [.int .i64 (k : Nat)] 3⟩ :: ⟨b2, true, row [ptr r] 73⟩ :: ⟨r, true, rdP lv (L.length - l1.length)⟩ :: ((A ++ tnH t1) ++ lvH (tb, q))) Zr) : q := f h
theorem Zg8 {p : Prop} (h : p := by repeat (first | exact htm | apply List.Mem.tail)) : p := h
theorem Zg9 {p : Prop} (h : p := by repeat (first | exact hmm | apply List.Mem.tail)) : p := h
theorem Zha {p : Prop} (h : p := by show SubH (prH (.slice (some ⟨tb, toff, none⟩) l.length tc) pb (putsS (putsS s pre) (K.take (j + 1)).flatten) oq A) _; rw [hnx]; exact Zbf) : p := h
theorem Zhb {p q : Prop} (h : p) (f : p → q := by refine W.rettc rfl rfl rfl (agT rfl) Zd (szT rfl)) : q := f h
theorem Zhc {p : Prop} (h : p := by exact fun w hs => kinds1_ok (kb := b4) (k := k) hs Zd hk) : p := h
theorem Zhd {p q : Prop} (h : p) (f : p → q := by refine wl_nextStr' (wd := 1) rfl rfl rfl hlt hdec Zf) : q := f h
theorem Zhe {p : Prop} (h : p := by repeat (first | exact hcm | apply List.Mem.tail)) : p := h
theorem Zhf {p : Prop} (h : p := by first | exact Zp | exact Zev) : p := h
theorem Zhg {p q : Prop} (h : p) (f : p → q := by refine W.retc rfl rfl (agT rfl) Zd (szT rfl)) : q := f h
theorem Zhh {p : Prop} (h : p := by first | exact ev_load (agT rfl) rfl (List.Mem.tail _ hr') rfl | exact Zev) : p := h
theorem Zhi {p : Prop} (h : p := by exact fun w hs => writeByte_ok (A := A) (o := o) 10 (pV_or _ _) hok hn hs) : p := h
theorem Zhj {p : Prop} (h : p := by exact fun w hs => writeByte_ok (A := A) (o := o) 32 (pV_or _ _) hok hn hs) : p := h
theorem Zhk {p : Prop} (h : p := by first | exact ev_load (agT rfl) rfl (List.Mem.tail _ hm) rfl | exact Zev) : p := h
theorem Zhl {p q : Prop} (h : p) (f : p → q := by refine wl_rangeStr rfl rfl (strT rfl) rfl) : q := f h
theorem Zhm {p : Prop} (h : p := by exact fun w hs => sk2 w (hs.get Zd)) : p := h
theorem Zhn {p q : Prop} (h : p) (f : p → q := by refine calls_of_W (vs := [ptr r]) Tryz.func163 rfl Tryz.ntmps163 (Nat.le_of_ble_eq_true rfl) hst1.fromHere) : q := f h
theorem Zho {p q : Prop} (h : p) (f : p → q := by refine wl_callS rfl rfl has94 rfl Zhr) : q := f h
theorem Zhp {p q : Prop} (h : p) (f : p → q := by refine wl_callB0 rfl has94 rfl Zhq) : q := f h
theorem Zhq {p : Prop} (h : p := by exact fun w hs => psg_bad hs Zd hT Zc Zf5 Zf5) : p := h
theorem Zhr {p : Prop} (h : p := by exact fun w hs => psg_ok hs Zf hT Zc Zf5 Zf5) : p := h
theorem Zhs {p q : Prop} (h : p) (f : p → q := by refine Wm.skip1 Zj rfl Zj Zk Zf6 rfl rfl Zb Zb) : q := f h
theorem Zht {p : Prop} (h : p := by exact fun w hs => pis (s := [[40]]) hs Zd Zf5 rfl Zf6) : p := h
theorem Zhu {p q : Prop} (h : p) (f : p → q := by refine wl_callS rfl rfl has57 rfl Zh0) : q := f h
theorem Zhv {p q : Prop} (h : p) (f : p → q := by refine wl_callB0 rfl has57 rfl Zhy) : q := f h
theorem Zhw {p q : Prop} (h : p) (f : p → q := by refine wl_callS rfl rfl has57 rfl Zh5) : q := f h
theorem Zhx {p q : Prop} (h : p) (f : p → q := by refine wl_callB0 rfl has57 rfl Zh2) : q := f h
theorem Zhy {p : Prop} (h : p := by exact fun w hs => ptake_bad named_pred hs Zd hT Zc Zf5 Zf5) : p := h
theorem Zhz {p q : Prop} (h : p) (f : p → q := by refine wl_callS rfl rfl has99 rfl Zh9) : q := f h
theorem Zh0 {p : Prop} (h : p := by exact fun w hs => ptake_ok named_pred hs Zf hT Zc Zf5 Zf5) : p := h
theorem Zh1 {p q : Prop} (h : p) (f : p → q := by refine wl_callB0 rfl has99 rfl Zh8) : q := f h
theorem Zh2 {p : Prop} (h : p := by exact fun w hs => ptake_bad fst_pred hs Zd hT Zc Zf5 Zf5) : p := h
theorem Zh3 {p q : Prop} (h : p) (f : p → q := by refine wl_callG rfl rfl hh rfl rfl Zii) : q := f h
theorem Zh4 {p q : Prop} (h : p) (f : p → q := by refine Wm.skip1 Zj rfl Zj Zk Zf6 rfl rfl Ze Ze) : q := f h
theorem Zh5 {p : Prop} (h : p := by exact fun w hs => ptake_ok fst_pred hs Zf hT Zc Zf5 Zf5) : p := h
theorem Zh6 {p q : Prop} (h : p) (f : p → q := by refine wl_callGB rfl hh rfl rfl Zif) : q := f h
theorem Zh7 {p : Prop} (h : p := by exact fun w hs => pis (s := [[116, 114, 117, 101], [102, 97, 108, 115, 101]]) hs Zd Zf5 rfl Zf6) : p := h
theorem Zh8 {p : Prop} (h : p := by exact fun w hs => node_bad ihe hs Zf5 Zf5 Zh hT Zc) : p := h
theorem Zh9 {p : Prop} (h : p := by exact fun w hs => node_ok ihe hs Zf5 Zf5 Zh hT Zc) : p := h
theorem Zia {p q : Prop} (h : p) (f : p → q := by refine wl_callS rfl rfl has98 rfl Zir) : q := f h
theorem Zib {p q : Prop} (h : p) (f : p → q := by refine wl_callS rfl rfl has57 rfl Ziu) : q := f h
theorem Zic {p q : Prop} (h : p) (f : p → q := by refine wl_callS rfl rfl has98 rfl Zis) : q := f h
theorem Zid {p q : Prop} (h : p) (f : p → q := by refine wl_callB0 rfl has57 rfl Zit) : q := f h
theorem Zie {p : Prop} (h : p := by exact fun w hs => node_bad ihb hs Zf5 Zf5 Zh hT Zc) : p := h
theorem Zif {p : Prop} (h : p := by exact fun w hs => one_bad (hc' _ _) hs (nxR_mem Zd Zd) Zf5 Zf5 Zh hT Zc) : p := h
theorem Zig {p : Prop} (h : p := by exact fun w hs => node_ok ihb hs Zf5 Zf5 Zh hT Zc) : p := h
theorem Zih {p : Prop} (h : p := by first | (apply gLoa; first | exact ev_loadAggAt (agT rfl) (szT rfl) rfl Zd (ga _ Zf7) rfl | exact ev_loadAggAt (agT rfl) (szT rfl) rfl Zd (gu _ Zf7) rfl) | exact Zev) : p := h
theorem Zii {p : Prop} (h : p := by exact fun w hs => one_ok (hc' _ _) hs (nxR_mem Zd Zd) Zf5 Zf5 Zh hT Zc) : p := h
theorem Zij {p q : Prop} (h : p) (f : p → q := by refine wl_callS rfl rfl has98 rfl Ziw) : q := f h
theorem Zik {p q : Prop} (h : p) (f : p → q := by refine wl_callS rfl rfl has164 rfl Zig) : q := f h
theorem Zil {p q : Prop} (h : p) (f : p → q := by refine wl_callS rfl rfl has98 rfl Zix) : q := f h
theorem Zim {p q : Prop} (h : p) (f : p → q := by refine Wm.take0 Zj rfl Zj Zk Zk Zf6 Zf6 rfl rfl Zev Zb Zb) : q := f h
theorem Zin {p q : Prop} (h : p) (f : p → q := by refine wl_callB0 rfl has164 rfl Zie) : q := f h
theorem Zio {p : Prop} (h : p := by exact fun w hs => put_at (ss := [[59]]) hs Zs Zd rfl Zf5 Zv Zi (Nat.le_of_ble_eq_true rfl)) : p := h
theorem Zip {p : Prop} (h : p := by first | exact ev_loadAggAt (lv := ndL kd ty tx nm (.slice q ks.length c) pl) (agT rfl) (szT rfl) rfl Zbc (fun f u h => ga f u h _ Zf7) rfl | exact Zev) : p := h
theorem Ziq {p : Prop} (h : p := by exact fun w hs => put_at (ss := [tx]) hs Zs Zd rfl Zf5 Zv Zi (Nat.le_of_ble_eq_true rfl)) : p := h
theorem Zir {p : Prop} (h : p := by exact fun w hs => pmay_yes (s := [[44]]) hs Zd Zf hT Zc Zf5 Zf5 rfl Zf6) : p := h
theorem Zis {p : Prop} (h : p := by exact fun w hs => pmay_no (s := [[44]]) hs Zd Zd hT Zc Zf5 Zf5 rfl Zf6) : p := h
theorem Zit {p : Prop} (h : p := by exact fun w hs => ptake_bad whole_pred hs Zd hT Zc Zf5 Zf5) : p := h
theorem Ziu {p : Prop} (h : p := by exact fun w hs => ptake_ok whole_pred hs Zf hT Zc Zf5 Zf5) : p := h
theorem Ziv {p q : Prop} (h : p) (f : p → q := by refine Wm.take0 Zj rfl Zj Zk Zk Zf6 Zf6 rfl rfl Zu Ze Ze) : q := f h
theorem Ziw {p : Prop} (h : p := by exact fun w hs => pmay_yes (s := levW k) hs Zbs Zf hT Zc Zf5 Zf5 rfl (lv_len k)) : p := h
theorem Zix {p : Prop} (h : p := by exact fun w hs => pmay_no (s := levW k) hs Zbs Zd hT Zc Zf5 Zf5 rfl (lv_len k)) : p := h
theorem Ziy {p q : Prop} (h : p) (f : p → q := by refine Wm.take1 Zj rfl Zj Zk Zf6 rfl rfl Zev Zb Zb) : q := f h
theorem Ziz {p : Prop} (h : p := by exact fun w hs => ppk0 hs Zd hT Zc Zf5) : p := h
theorem Zi0 {p q : Prop} (h : p) (f : p → q := by refine wl_callS rfl rfl has57 rfl Zjg) : q := f h
theorem Zi1 {p : Prop} (h : p := by first | exact ev_load (agT rfl) rfl (List.Mem.head _) rfl | exact ev_ptrNil Zmi rfl rfl | exact ev_toUnsafe Zmi Zmi (szT rfl) (List.Mem.head _) Zgh rfl | exact ev_fromUnsafe Zmi Zmi (szT rfl) (List.Mem.head _) Zj rfl | exact ev_extern Tryz.func137 Zj Zj Zj (e := Extern.AbiNoEscape.same) Zj (fun w => Lib.run_noEscape w _) rfl | exact Zev) : p := h
theorem Zi2 {p : Prop} (h : p := by exact fun w hs => put_at (ss := [[41]]) hs Zs Zd rfl Zf5 Zv Zi (Nat.le_of_ble_eq_true rfl)) : p := h
theorem Zi3 {p q : Prop} (h : p) (f : p → q := by refine wl_callB0 rfl has57 rfl Zjf) : q := f h
theorem Zi4 {p q : Prop} (h : p) (f : p → q := by refine wl_callS rfl rfl has98 rfl Zjh) : q := f h
theorem Zi5 {p q : Prop} (h : p) (f : p → q := by refine wl_callS rfl rfl has98 rfl Zji) : q := f h
theorem Zi6 {p q : Prop} (h : p) (f : p → q := by refine Wm.take1 Zj rfl Zj Zk Zf6 rfl rfl Zu Ze Ze) : q := f h
theorem Zi7 {p q : Prop} (h : p) (f : p → q := by refine wl_callS rfl rfl has98 rfl Zjj) : q := f h
theorem Zi8 {p q : Prop} (h : p) (f : p → q := by refine wl_callS rfl rfl has98 rfl Zjk) : q := f h
theorem Zi9 {p : Prop} (h : p := by exact fun w hs => pr_at (hkid) hs Zs Zf5 Zf5 Zi) : p := h
theorem Zja {p : Prop} (h : p := by simp; omega) : p := h
theorem Zjb {p : Prop} (h : p := by first | (apply gLoa; first | exact ev_loadAggAt (lv := ndL 4 ty tx nm (.slice (some ⟨kb, koff, none⟩) (k0.length + 1) c) pl) (agT rfl) (szT rfl) rfl Zbc (fun f u h => ga f u h _ Zf7) rfl | exact ev_loadAt (agT rfl) rfl Zge (g0 _ Zf7)) | exact ev_sliceHi (k := k0.length) (slT rfl) (szT rfl) rfl rfl Zf7 Zf7 | exact Zev) : p := h
theorem Zjc {p q : Prop} (h : p) (f : p → q := by refine W.reC (H' := ⟨bn, true, row [.int .i64 1, st [], st [], .int .i32 0, .slice none 0 0, .int .i64 0, ownV (ts ++ [n1]).length o2] 104⟩ :: ⟨r, true, rdP (.slice lp L.length lc) (L.length - l8.length)⟩ :: ((A ++ tnsH (ts ++ [n1])) ++ ownH 77 o2)) (by rw [len_snoc ts n1]; intro e; simp only [List.count_append, cnt_cons, List.count_nil]; omega)) : q := f h
theorem Zjd {p q : Prop} (h : p) (f : p → q := by refine wl_callS rfl rfl has57 rfl Zjo) : q := f h
theorem Zje {p : Prop} (h : p := by first | (apply gLoa; first | exact ev_loadAt (agT rfl) rfl Zge (hgt 0 _ rfl _ Zf7) | exact ev_loadAt (agT rfl) rfl Zge (hgt 1 _ rfl _ Zf7) | exact ev_loadAt (agT rfl) rfl Zge (hgt 2 _ rfl _ Zf7) | exact ev_loadAt (agT rfl) rfl Zbc (ga _ Zf7) | exact ev_loadAt (agT rfl) rfl Zbc (gb _ Zf7)) | exact Zev) : p := h
theorem Zjf {p : Prop} (h : p := by exact fun w hs => ptake_bad typed_pred hs Zd hT Zc Zf5 Zf5) : p := h
theorem Zjg {p : Prop} (h : p := by exact fun w hs => ptake_ok typed_pred hs Zf hT Zc Zf5 Zf5) : p := h
theorem Zjh {p : Prop} (h : p := by exact fun w hs => pmay_yes (s := [[63]]) hs Zd Zf hT Zc Zf5 Zf5 rfl Zf6) : p := h
theorem Zji {p : Prop} (h : p := by exact fun w hs => pmay_yes (s := [[61]]) hs Zd Zf hT Zc Zf5 Zf5 rfl Zf6) : p := h
theorem Zjj {p : Prop} (h : p := by exact fun w hs => pmay_no (s := [[63]]) hs Zd Zd hT Zc Zf5 Zf5 rfl Zf6) : p := h
theorem Zjk {p : Prop} (h : p := by exact fun w hs => pmay_no (s := [[61]]) hs Zd Zd hT Zc Zf5 Zf5 rfl Zf6) : p := h
theorem Zjl {p : Prop} (h : p := by exact fun w hs => pr_at (h0) hs Zs Zf5 Zf5 Zi) : p := h
theorem Zjm {p q : Prop} (h : p) (f : p → q := by refine wl_callS rfl rfl has98 rfl Zj1) : q := f h
theorem Zjn {p q : Prop} (h : p) (f : p → q := by refine wl_callS rfl rfl has98 rfl Zj2) : q := f h
theorem Zjo {p : Prop} (h : p := by exact fun w hs => ptakeR_ok (same_pred _ b4) hs (mem_one Zd) str_no_rd' Zf hT Zc Zf5 Zf5) : p := h
theorem Zjp {p q : Prop} (h : p) (f : p → q := by refine wl_callB0 rfl has57 rfl Zjz) : q := f h
theorem Zjq {p q : Prop} (h : p) (f : p → q := by refine wl_callS rfl rfl has136 rfl Zkd) : q := f h
theorem Zjr {p q : Prop} (h : p) (f : p → q := by refine wl_callB0 rfl has136 rfl Zkc) : q := f h
theorem Zjs {p q : Prop} (h : p) (f : p → q := by refine wl_callS rfl rfl has95 rfl Zj6) : q := f h
theorem Zjt {p q : Prop} (h : p) (f : p → q := by refine wl_callS rfl rfl has98 rfl Zj7) : q := f h
theorem Zju {p : Prop} (h : p := by apply gSli; first | exact (ev_slice_string_lo (strT rfl) rfl rfl Zf7).to (show _ = st l from by rw [← hls]; rfl) | exact (ev_slice_string_hi (strT rfl) rfl rfl Zf7).to (show _ = st T from by rw [← hT]; exact congrArg (fun k => st (l.take k)) Zf7)) : p := h
theorem Zjv {p q : Prop} (h : p) (f : p → q := by refine wl_callS rfl rfl has98 rfl Zka) : q := f h
theorem Zjw {p q : Prop} (h : p) (f : p → q := by refine wl_callB0 rfl has95 rfl Zj8) : q := f h
theorem Zjx {p q : Prop} (h : p) (f : p → q := by refine wl_callS rfl rfl has98 rfl Zj3) : q := f h
theorem Zjy {p q : Prop} (h : p) (f : p → q := by refine wl_callS rfl rfl has98 rfl Zj4) : q := f h
theorem Zjz {p : Prop} (h : p := by exact fun w hs => ptakeR_bad (same_pred _ b4) hs (mem_one Zd) Zd hT Zc Zf5 Zf5) : p := h
theorem Zj0 {p : Prop} (h : p := by first | (apply gLoa; first | exact ev_loadAggAt (lv := ndL 3 ty tx nm (.slice (some ⟨kb, koff, none⟩) 1 c) pl) (agT rfl) (szT rfl) rfl Zbc (fun f u h => ga f u h _ Zf7) rfl | exact ev_loadAt (agT rfl) rfl Zge (g0 _ Zf7)) | exact Zev) : p := h
theorem Zj1 {p : Prop} (h : p := by exact fun w hs => pmay_yes (s := [[45], [33]]) hs Zd Zf hT Zc Zf5 Zf5 rfl Zf6) : p := h
theorem Zj2 {p : Prop} (h : p := by exact fun w hs => pmay_no (s := [[45], [33]]) hs Zd Zd hT Zc Zf5 Zf5 rfl Zf6) : p := h
theorem Zj3 {p : Prop} (h : p := by exact fun w hs => pmay_yes (s := [[61], [43, 61], [45, 61], [42, 61], [47, 61]]) hs Zd Zf hT Zm Zf5 Zf5 rfl Zf6) : p := h
theorem Zj4 {p : Prop} (h : p := by exact fun w hs => pmay_no (s := [[61], [43, 61], [45, 61], [42, 61], [47, 61]]) hs Zd Zd hT Zm Zf5 Zf5 rfl Zf6) : p := h
theorem Zj5 {p q : Prop} (h : p) (f : p → q := by refine Wm.take0 Zj rfl Zj Zk Zk Zf6 Zf6 rfl rfl Zev Ze Ze) : q := f h
theorem Zj6 {p : Prop} (h : p := by exact fun w hs => list_yes (expr_one ihe _) hs Zf5 Zf5 Zgh Zgh Zh hT Zc) : p := h
theorem Zj7 {p : Prop} (h : p := by exact fun w hs => pmay_yes (s := [[45]]) hs Zd Zf hT Zc Zf5 Zf5 rfl Zf6) : p := h
theorem Zj8 {p : Prop} (h : p := by exact fun w hs => list_no (expr_one ihe _) hs Zf5 Zf5 Zgh Zgh Zh hT Zc) : p := h
theorem Zj9 {p q : Prop} (h : p) (f : p → q := by refine Wm.take0 Zj rfl Zj Zk Zk Zf6 Zf6 rfl rfl Zw Zb Zb) : q := f h
theorem Zka {p : Prop} (h : p := by exact fun w hs => pmay_no (s := [[45]]) hs Zd Zd hT Zc Zf5 Zf5 rfl Zf6) : p := h
theorem Zkb {p : Prop} (h : p := by exact fun w hs => hbl w (hm.st hs Zgh) (hs.get Zd)) : p := h
theorem Zkc {p : Prop} (h : p := by exact fun w hs => node_bad ihc hs Zf5 Zf5 Zh hT Zm) : p := h
theorem Zkd {p : Prop} (h : p := by exact fun w hs => node_ok ihc hs Zf5 Zf5 Zh hT Zm) : p := h
theorem Zke {p q : Prop} (h : p) (f : p → q := by refine wl_callG rfl rfl hh rfl rfl Zk5) : q := f h
theorem Zkf {p q : Prop} (h : p) (f : p → q := by refine wl_callS rfl rfl has98 rfl Zkt) : q := f h
theorem Zkg {p q : Prop} (h : p) (f : p → q := by refine wl_callGB rfl hh rfl rfl Zk2) : q := f h
theorem Zkh {p q : Prop} (h : p) (f : p → q := by refine wl_callS rfl rfl has98 rfl Zku) : q := f h
theorem Zki {p q : Prop} (h : p) (f : p → q := by refine wl_callS rfl rfl has135 rfl Zld) : q := f h
theorem Zkj {p q : Prop} (h : p) (f : p → q := by refine wl_callS rfl rfl has135 rfl Zle) : q := f h
theorem Zkk {p : Prop} (h : p := by exact fun w hs => pr_at (h1) hs Zs Zf5 Zf5 Zi) : p := h
theorem Zkl {p q : Prop} (h : p) (f : p → q := by refine Wm.take1 Zj rfl Zj Zk Zf6 rfl rfl Zev Ze Ze) : q := f h
theorem Zkm {p q : Prop} (h : p) (f : p → q := by refine wl_callS rfl rfl has99 rfl Zlc) : q := f h
theorem Zkn {p q : Prop} (h : p) (f : p → q := by refine wl_callB0 rfl has135 rfl Zk7) : q := f h
theorem Zko {p q : Prop} (h : p) (f : p → q := by refine wl_callB0 rfl has135 rfl Zk8) : q := f h
theorem Zkp {p q : Prop} (h : p) (f : p → q := by refine Wm.take1 Zj rfl Zj Zk Zf6 rfl rfl Zw Zb Zb) : q := f h
theorem Zkq {p q : Prop} (h : p) (f : p → q := by refine wl_callB0 rfl has99 rfl Zk6) : q := f h
theorem Zkr {p : Prop} (h : p := by first | exact ev_loadAggAt (lv := ndL 2 ty tx nm (.slice q ks.length c) pl) (agT rfl) (szT rfl) rfl Zbc (fun f u h => ga f u h _ Zf7) rfl | exact ev_nesF rfl rfl h0 | exact Zev) : p := h
theorem Zks {p : Prop} (h : p := by first | exact ev_loadAggAt (lv := ndL 2 ty tx nm (.slice q ks.length c) pl) (agT rfl) (szT rfl) rfl Zbc (fun f u h => ga f u h _ Zf7) rfl | exact ev_nesT rfl rfl h0 | exact Zev) : p := h
theorem Zkt {p : Prop} (h : p := by exact fun w hs => pmay_yes (s := [[101, 108, 115, 101]]) hs Zd Zf hT Zc Zf5 Zf5 rfl Zf6) : p := h
theorem Zku {p : Prop} (h : p := by exact fun w hs => pmay_no (s := [[101, 108, 115, 101]]) hs Zd Zd hT Zc Zf5 Zf5 rfl Zf6) : p := h
theorem Zkv {p : Prop} (h : p := by rw [own_row]; intro e; simp only [List.count_append, cnt_cons, List.count_nil]; omega) : p := h
theorem Zkw {p : Prop} (h : p := by exact fun w hs => pkN _ w Zf7 (hs.get Zd)) : p := h
theorem Zkx {p : Prop} (h : p := by exact fun w hs => pis (s := [[100, 105, 115, 99, 97, 114, 100]]) hs Zd Zf5 rfl Zf6) : p := h
theorem Zky {p q : Prop} (h : p) (f : p → q := by refine Wm.take0 Zj rfl Zj Zk Zk Zf6 Zf6 rfl rfl Zu Zb Zb) : q := f h
theorem Zkz {p q : Prop} (h : p) (f : p → q := by refine wl_callS rfl rfl has98 rfl Zlf) : q := f h
theorem Zk0 {p : Prop} (h : p := by exact fun w hs => pis (s := [[114, 101, 116, 117, 114, 110]]) hs Zd Zf5 rfl Zf6) : p := h
theorem Zk1 {p q : Prop} (h : p) (f : p → q := by refine wl_callS rfl rfl has98 rfl Zlg) : q := f h
theorem Zk2 {p : Prop} (h : p := by exact fun w hs => one_bad hc hs Zb9 Zf5 Zf5 Zh hT Zc) : p := h
theorem Zk3 {p q : Prop} (h : p) (f : p → q := by refine wl_callS rfl rfl has98 rfl Zlh) : q := f h
theorem Zk4 {p q : Prop} (h : p) (f : p → q := by refine wl_callS rfl rfl has98 rfl Zli) : q := f h
theorem Zk5 {p : Prop} (h : p := by exact fun w hs => one_ok hc hs Zb9 Zf5 Zf5 Zh hT Zc) : p := h
theorem Zk6 {p : Prop} (h : p := by exact fun w hs => node_bad ihe hs e3 Zf5 Zh hT Zc) : p := h
theorem Zk7 {p : Prop} (h : p := by exact fun w hs => node_bad ihs hs e5 Zf5 Zh hT Zc) : p := h
theorem Zk8 {p : Prop} (h : p := by exact fun w hs => node_bad ihs hs e8 Zf5 Zh hT Zc) : p := h
theorem Zk9 {p : Prop} (h : p := by first | exact ev_loadAggAt (lv := ndL 1 ty tx nm (.slice q ks.length c) pl) (agT rfl) (szT rfl) rfl Zbc (fun f u h => ga f u h _ Zf7) rfl | exact Zev) : p := h
theorem Zla {p : Prop} (h : p := by first | exact ev_loadAggAt (lv := ndL 6 ty tx nm (.slice q ks.length c) pl) (agT rfl) (szT rfl) rfl Zbc (fun f u h => ga f u h _ Zf7) rfl | exact Zev) : p := h
theorem Zlb {p : Prop} (h : p := by first | exact ev_loadAggAt (lv := ndL 5 ty tx nm (.slice q ks.length c) pl) (agT rfl) (szT rfl) rfl Zbc (fun f u h => ga f u h _ Zf7) rfl | exact Zev) : p := h
theorem Zlc {p : Prop} (h : p := by exact fun w hs => node_ok ihe hs e3 Zf5 Zh hT Zc) : p := h
theorem Zld {p : Prop} (h : p := by exact fun w hs => node_ok ihs hs e5 Zf5 Zh hT Zc) : p := h
theorem Zle {p : Prop} (h : p := by exact fun w hs => node_ok ihs hs e8 Zf5 Zh hT Zc) : p := h
theorem Zlf {p : Prop} (h : p := by exact fun w hs => pmay_yes (s := [[125]]) hs Zd Zf hT Zc Zf5 Zf5 rfl Zf6) : p := h
theorem Zlg {p : Prop} (h : p := by exact fun w hs => pmay_yes (s := [[46]]) hs Zd Zf hT Zc Zf5 Zf5 rfl Zf6) : p := h
theorem Zlh {p : Prop} (h : p := by exact fun w hs => pmay_no (s := [[125]]) hs Zd Zd hT Zc Zf5 Zf5 rfl Zf6) : p := h
theorem Zli {p : Prop} (h : p := by exact fun w hs => pmay_no (s := [[46]]) hs Zd Zd hT Zc Zf5 Zf5 rfl Zf6) : p := h
theorem Zlj {p : Prop} (h : p := by first | exact ev_loadAggAt (lv := ndL 3 ty tx nm (.slice q 0 c) pl) (agT rfl) (szT rfl) rfl Zbc (fun f u h => ga f u h _ Zf7) rfl | exact Zev) : p := h
theorem Zlk {p : Prop} (h : p := by first | exact ev_loadAggAt (lv := ndL 1 ty tx nm (.slice q 0 c) pl) (agT rfl) (szT rfl) rfl Zbc (fun f u h => ga f u h _ Zf7) rfl | exact Zev) : p := h
theorem Zll {p : Prop} (h : p := by exact fun w hs => pr_at (hli) hs Zs Zf5 Zf5 Zi) : p := h
theorem Zlm {p : Prop} (h : p := by exact fun w hs => list_yes (par_one b2 r) hs Zf5 Zf5 (mem_oneB Zd) (fun e he => by rw [List.mem_singleton.1 he]; intro e; cases e) Zh hT Zc) : p := h
theorem Zln {p : Prop} (h : p := by exact fun w hs => list_no (par_one b2 r) hs Zf5 Zf5 (mem_oneB Zd) (fun e he => by rw [List.mem_singleton.1 he]; intro e; cases e) Zh hT Zc) : p := h
theorem Zlo {p q : Prop} (h : p) (f : p → q := by refine Wm.take1 Zj rfl Zj Zk Zf6 rfl rfl Zu Zb Zb) : q := f h
theorem Zlp {p q : Prop} (h : p) (f : p → q := by refine wl_callS rfl rfl has95 rfl Zlm) : q := f h
theorem Zlq {p : Prop} (h : p := by exact fun w hs => pis (s := [[102, 111, 114]]) hs Zd Zf5 rfl Zf6) : p := h
theorem Zlr {p q : Prop} (h : p) (f : p → q := by refine wl_callB0 rfl has95 rfl Zln) : q := f h
theorem Zls {p : Prop} (h : p := by apply gCal; first | exact (ev_max rfl rfl).to (congrArg (Value.int .i64) (show _ = ((max depth deep : Nat) : Int) from by omega))) : p := h
theorem Zlt {p : Prop} (h : p := by apply gBin; first | exact (ev_add64 rfl rfl Zf7).to (congrArg (Value.int .i64) (show _ = ((i + 1 : Nat) : Int) from by omega))) : p := h
theorem Zlu {p : Prop} (h : p := by first | exact ev_loadAt (agT rfl) rfl Zd hcell | exact ev_sliceHi (k := 3) (slT rfl) (szT rfl) rfl rfl rfl Zf7 | exact Zev) : p := h
theorem Zlv {p : Prop} (h : p := by exact fun w hs => pis (s := [[105, 102]]) hs Zd Zf5 rfl Zf6) : p := h
theorem Zlw {p : Prop} (h : p := by first | exact ev_loadAggAt (agT rfl) (szT rfl) rfl Zd (ga _ Zf7) rfl | exact ev_len_own (slT rfl) hoz rfl | exact Zev) : p := h
theorem Zlx {p q : Prop} (h : p) (f : p → q := by refine wl_callS rfl rfl has97 rfl Zig) : q := f h
theorem Zly {p q : Prop} (h : p) (f : p → q := by refine wl_callB0 rfl has97 rfl Zie) : q := f h
theorem Zlz {p : Prop} (h : p := by exact fun w hs => pis (s := [[123]]) hs Zd Zf5 rfl Zf6) : p := h
theorem Zl0 {p : Prop} (h : p := by exact fun w hs => pis (s := [[59]]) hs Zd Zf5 rfl Zf6) : p := h
theorem Zl1 {p : Prop} (h : p := by apply gIdx; first | exact (ev_index_string (strT rfl) rfl rfl Zf7).to (show _ = by8 (l.getD D 0) from rfl)) : p := h
theorem Zl2 {p : Prop} (h : p := by exact fun w hs => put_at (ss := [[105, 102], [40]]) hs Zs Zd rfl Zf5 Zv Zi (Nat.le_of_ble_eq_true rfl)) : p := h
theorem Zl3 {p : Prop} (h : p := by simpa using h) : p := h
theorem Zl4 {p : Prop} (h : p := by unfold saidT; simp [ht]) : p := h
theorem Zl5 {p : Prop} (h : p := by exact fun w hs => pr_at (h2) hs Zs Zf5 Zf5 Zi) : p := h
theorem Zl6 {p : Prop} (h : p := by exact fun w hs => put_at (ss := [ty]) hs Zs Zd rfl Zf5 Zv Zi (Nat.le_of_ble_eq_true rfl)) : p := h
theorem Zl7 {p : Prop} (h : p := by exact fun w hs => put_at (ss := [d]) hs Zs Zd rfl Zf5 Zv Zi (Nat.le_of_ble_eq_true rfl)) : p := h
theorem Zl8 {p : Prop} (h : p := by first | exact ev_loadAggAt (agT rfl) (szT rfl) rfl Zd (ga _ Zf7) rfl | exact Zev) : p := h
theorem Zl9 {p : Prop} (h : p := by exact fun w hs => ppk1 hs Zd hT Zc Zf5) : p := h
theorem Zma {p : Prop} (h : p := by exact fun w hs => pis (s := [[99, 111, 110, 115, 116]]) hs Zd Zf5 rfl Zf6) : p := h
theorem Zmb {p : Prop} (h : p := by simp [binOp, Op.intCmp]) : p := h
theorem Zmc {p : Prop} (h : p := by exact fun w hs => pmay_yes (s := [[41]]) hs Zd Zf hT Zc Zf5 Zf5 rfl Zf6) : p := h
theorem Zmd {p : Prop} (h : p := by exact fun w hs => pmay_no (s := [[41]]) hs Zd Zd hT Zc Zf5 Zf5 rfl Zf6) : p := h
theorem Zme {p q : Prop} (h : p) (f : p → q := by refine Wm.take0 Zj rfl Zj Zk Zk Zf6 Zf6 rfl rfl Zbb Zb Zb) : q := f h
theorem Zmf {p q : Prop} (h : p) (f : p → q := by refine Wm.take0 Zj rfl Zj Zk Zk Zf6 Zf6 rfl rfl Zbl Zb Zb) : q := f h
theorem Zmg {p : Prop} (h : p := by simpa using hj) : p := h
theorem Zmh {p : Prop} (h : p := by simpa using hr) : p := h
theorem Zmi {p : Prop} (h : p := by rfl) : p := h

namespace Go.PB
open Go.RowKit
def row (l : List Value) (e : TypeId) : Obj := .cells l.toArray e (0, 0)
structure Ent where
 b : Nat
 wr : Bool
 o : Obj
structure St (M : List Nat) (w0 w : World) (H : List Ent) : Prop where
 os : w.os = w0.os
 tape : w.tape = w0.tape
 output : w.output = w0.output
 size : w0.heap.size ≤ w.heap.size
 frame : ∀ k, k < w0.heap.size → k ∉ M → w.heap[k]? = w0.heap[k]?
 own : ∀ p, p ∈ H → w.heap[p.b]? = some p.o ∧ (p.wr = true → w0.heap.size ≤ p.b ∨ p.b ∈ M)
 apart : H.Pairwise (fun p q => p.b = q.b → p.wr = false ∧ q.wr = false)
theorem beq_ne {i j : Nat} (h : i ≠ j) : Nat.beq i j = false := by
 cases hb : Nat.beq i j with
 | false => rfl
 | true => exact absurd (Nat.eq_of_beq_eq_true hb) h
theorem lt_of_get {w : World} {b : Nat} {o : Obj} (h : w.heap[b]? = some o) : b < w.heap.size :=
 (Array.getElem?_eq_some_iff.1 h).1
section
variable {M : List Nat} {w0 w w' : World} {H H' : List Ent}
theorem St.nil (w : World) (M : List Nat) : St M w w [] := ⟨rfl, rfl, rfl, Nat.le_refl _, fun _ _ _ => rfl, by simp, .nil⟩
theorem St.get (h : St M w0 w H) {b : Nat} {wr : Bool} {o : Obj} (hm : (⟨b, wr, o⟩ : Ent) ∈ H) : w.heap[b]? = some o := (h.own _ hm).1
theorem St.drew (h : St M w0 w H) : St M w0 w.drew H := ⟨h.os, h.tape, h.output, h.size, h.frame, h.own, h.apart⟩
theorem St.alloc (h : St M w0 w H) (o : Obj) : St M w0 (w.alloc o) (⟨w.heap.size, true, o⟩ :: H) := by
 refine ⟨h.os, h.tape, h.output, by simpa using Nat.le_succ_of_le h.size, fun k hk hM => ?_, ?_, ?_⟩
 ·rw [heap_alloc_old w o (Nat.lt_of_lt_of_le hk h.size)]; exact h.frame k hk hM
 ·intro p hp
  rcases List.mem_cons.1 hp with rfl | hp
  ·exact ⟨heap_alloc_new w o, fun _ => .inl h.size⟩
  ·have := h.own p hp
   exact ⟨by rw [heap_alloc_old w o (lt_of_get this.1)]; exact this.1, this.2⟩
 ·refine List.pairwise_cons.2 ⟨fun q hq he => ?_, h.apart⟩
  have := lt_of_get (h.own q hq).1
  simp only at he
  omega
def Upd (H : List Ent) (b : Nat) (o o' : Obj) (H' : List Ent) : Prop := ∃ H1 H2, H = H1 ++ ⟨b, true, o⟩ :: H2 ∧ H' = H1 ++ ⟨b, true, o'⟩ :: H2
theorem Upd.here {b : Nat} {o o' : Obj} : Upd (⟨b, true, o⟩ :: H) b o o' (⟨b, true, o'⟩ :: H) := ⟨[], H, rfl, rfl⟩
theorem Upd.there {b : Nat} {o o' : Obj} {p : Ent} (h : Upd H b o o' H') : Upd (p :: H) b o o' (p :: H') := by
 obtain ⟨H1, H2, rfl, rfl⟩ := h
 exact ⟨p :: H1, H2, rfl, rfl⟩
theorem Upd.mem {b : Nat} {o o' : Obj} (hu : Upd H b o o' H') : (⟨b, true, o⟩ : Ent) ∈ H := by
 obtain ⟨H1, H2, rfl, rfl⟩ := hu
 simp
theorem St.upd {b : Nat} {o o' : Obj} (h : St M w0 w H) (hu : Upd H b o o' H') (hg : w.grownBy w' (some b)) (hb : w'.heap[b]? = some o') : St M w0 w' H' := by
 obtain ⟨H1, H2, rfl, rfl⟩ := hu
 have hown := h.own ⟨b, true, o⟩ Zgh
 have hap := List.pairwise_append.1 h.apart
 have hap2 := List.pairwise_cons.1 hap.2.1
 refine ⟨hg.os.trans h.os, hg.tape.trans h.tape, hg.output.trans h.output, Nat.le_trans h.size hg.size, fun k hk hM => ?_, ?_, ?_⟩
 ·rw [hg.block k (Nat.lt_of_lt_of_le hk h.size) ?_]
  ·exact h.frame k hk hM
  ·intro e
   cases e
   rcases hown.2 rfl with h1 | h1
   ·simp only at h1; omega
   ·exact hM h1
 ·intro p hp
  have hcase : p = ⟨b, true, o'⟩ ∨ (p ∈ H1 ++ ⟨b, true, o⟩ :: H2 ∧ p.b ≠ b) := by
   rcases List.mem_append.1 hp with hp | hp
   ·refine .inr ⟨by simp [hp], fun e => ?_⟩
    have := (hap.2.2 p hp ⟨b, true, o⟩ Zgh e).2
    cases this
   ·rcases List.mem_cons.1 hp with rfl | hp
    ·exact .inl rfl
    ·refine .inr ⟨by simp [hp], fun e => ?_⟩
     have := (hap2.1 p hp e.symm).1
     cases this
  rcases hcase with rfl | ⟨hp, hne⟩
  ·exact ⟨hb, fun _ => hown.2 rfl⟩
  ·have := h.own p hp
   exact ⟨by rw [hg.block p.b (lt_of_get this.1) (by simpa using hne)]; exact this.1, this.2⟩
 ·refine List.pairwise_append.2 ⟨hap.1, List.pairwise_cons.2 ⟨fun q hq e => ?_, hap2.2⟩, fun p hp q hq e => ?_⟩
  ·exact hap2.1 q hq e
  ·rcases List.mem_cons.1 hq with rfl | hq
   ·exact hap.2.2 p hp ⟨b, true, o⟩ Zgh e
   ·exact hap.2.2 p hp q (by simp [hq]) e
def SubH (H' H : List Ent) : Prop := List.Sublist H' H
theorem SubH.nil : SubH [] H := List.nil_sublist _
theorem SubH.keep {p : Ent} (h : SubH H' H) : SubH (p :: H') (p :: H) := List.Sublist.cons_cons _ h
theorem SubH.drop {p : Ent} (h : SubH H' H) : SubH H' (p :: H) := List.Sublist.cons _ h
theorem St.sub (h : St M w0 w H) (hs : SubH H' H) : St M w0 w H' :=
 ⟨h.os, h.tape, h.output, h.size, h.frame, fun p hp => h.own p (List.Sublist.subset hs hp), List.Pairwise.sublist hs h.apart⟩
structure Turn (ms news : List (Nat × Obj)) (w w' : World) : Prop where
 os : w'.os = w.os
 tape : w'.tape = w.tape
 output : w'.output = w.output
 size : w.heap.size ≤ w'.heap.size
 frame : ∀ k, k < w.heap.size → k ∉ ms.map (·.1) → w'.heap[k]? = w.heap[k]?
 turned : ∀ p, p ∈ ms → w'.heap[p.1]? = some p.2
 made : ∀ p, p ∈ news → w.heap.size ≤ p.1 ∧ w'.heap[p.1]? = some p.2
 apart : news.Pairwise (fun p q => p.1 ≠ q.1)
abbrev Ext (w w' : World) : Prop := Turn [] [] w w'
theorem Turn.refl (w : World) : Ext w w := ⟨rfl, rfl, rfl, Nat.le_refl _, fun _ _ _ => rfl, by simp, by simp, .nil⟩
theorem Turn.forget {ms news : List (Nat × Obj)} (h : Turn ms news w w') : Turn ms [] w w' := ⟨h.os, h.tape, h.output, h.size, h.frame, h.turned, by simp, .nil⟩
theorem Ext.drew (w : World) : Ext w w.drew := ⟨rfl, rfl, rfl, Nat.le_refl _, fun _ _ _ => rfl, by simp, by simp, .nil⟩
theorem Ext.below (h : Ext w w') : Below w.heap.size w w' := ⟨h.os, h.tape, h.output, h.size, fun k hk => h.frame k hk Zgh⟩
theorem Ext.of_below (h : Below w.heap.size w w') : Ext w w' := ⟨h.os, h.tape, h.output, h.size, fun k hk _ => h.block k hk, by simp, by simp, .nil⟩
theorem Ext.trans {w'' : World} (h : Ext w w') (h' : Ext w' w'') : Ext w w'' :=
 Ext.of_below (h.below.trans (h'.below.mono h.size))
theorem St.ext (h : St M w0 w H) (hx : Ext w w') : St M w0 w' H := by
 refine ⟨hx.os.trans h.os, hx.tape.trans h.tape, hx.output.trans h.output, Nat.le_trans h.size hx.size, fun k hk hM => ?_, fun p hp => ?_, h.apart⟩
 ·rw [hx.frame k (Nat.lt_of_lt_of_le hk h.size) Zgh]; exact h.frame k hk hM
 ·have := h.own p hp
  exact ⟨by rw [hx.frame p.b (lt_of_get this.1) Zgh]; exact this.1, this.2⟩
def ents (l : List (Nat × Obj)) : List Ent := l.map fun p => ⟨p.1, true, p.2⟩
theorem St.takes {news : List (Nat × Obj)} (h : St M w0 w' H) (hw : ∀ p, p ∈ H → p.b < w.heap.size) (hs : w0.heap.size ≤ w.heap.size)
  (hn : ∀ p, p ∈ news → w.heap.size ≤ p.1 ∧ w'.heap[p.1]? = some p.2) (ha : news.Pairwise (fun p q => p.1 ≠ q.1)) : St M w0 w' (ents news ++ H) := by
 refine ⟨h.os, h.tape, h.output, h.size, h.frame, fun p hp => ?_, ?_⟩
 ·rcases List.mem_append.1 hp with hp | hp
  ·obtain ⟨q, hq, rfl⟩ := List.mem_map.1 hp
   have := hn q hq
   exact ⟨this.2, fun _ => .inl (Nat.le_trans hs this.1)⟩
  ·exact h.own p hp
 ·refine List.pairwise_append.2 ⟨?_, h.apart, fun p hp q hq e => ?_⟩
  ·exact List.pairwise_map.2 (ha.imp fun hne e => absurd e hne)
  ·obtain ⟨r, hr, rfl⟩ := List.mem_map.1 hp
   have h1 := (hn r hr).1
   have h2 := hw q hq
   simp only at e
   omega
theorem St.turn0 {news : List (Nat × Obj)} (h : St M w0 w H) (ht : Turn [] news w w') : St M w0 w' (ents news ++ H) :=
 (h.ext ht.forget).takes (w := w) (fun p hp => lt_of_get (h.own p hp).1) h.size ht.made ht.apart
theorem St.turn1 {b : Nat} {o o' : Obj} {news : List (Nat × Obj)} (h : St M w0 w H) (hu : Upd H b o o' H') (ht : Turn [(b, o')] news w w') : St M w0 w' (ents news ++ H') := by
 have hg : w.grownBy w' (some b) := ⟨ht.os, ht.tape, ht.output, ht.size, fun k hk hne => ht.frame k hk (by simpa using hne)⟩
 have h' := h.upd hu hg (ht.turned (b, o') Zgh)
 refine h'.takes (w := w) (fun p hp => ?_) h.size ht.made ht.apart
 obtain ⟨H1, H2, rfl, rfl⟩ := hu
 rcases List.mem_append.1 hp with hp | hp
 ·exact lt_of_get (h.own p (by simp [hp])).1
 ·rcases List.mem_cons.1 hp with rfl | hp
  ·exact lt_of_get (h.own ⟨b, true, o⟩ Zgh).1
  ·exact lt_of_get (h.own p (by simp [hp])).1
end
def look : List (Nat × Value) → Nat → Option Value
 | [], _ => none
 | (j, v) :: L, i => bif Nat.beq i j then some v else look L i
structure Fz (n : Nat) (L : List (Nat × Value)) (D : List Deferred) (a : Act) : Prop where
 size : a.tmps.size = n
 defers : a.defers = D
 has : ∀ i v, look L i = some v → a.tmps[i]? = some v
def evo (L : List (Nat × Value)) : Operand → Option Value
 | .tmp i => look L i
 | .const v => some v
 | .global g => some (.pointer (some ⟨g, 0, none⟩))
 | .func f => some (.func (.func f) #[] #[])
section
variable {n : Nat} {L L' : List (Nat × Value)} {D : List Deferred} {a : Act}
theorem Fz.eval (h : Fz n L D a) {x : Operand} {v : Value} (hx : evo L x = some v) : a.eval x = v := by
 cases x with
 | tmp i => simp only [evo] at hx; simp [Act.eval, h.has i v hx]
 | const c => simpa [evo, Act.eval] using hx
 | global g => simpa [evo, Act.eval] using hx
 | func f => simpa [evo, Act.eval] using hx
def setL (dst : Option Tmp) (v : Value) (L : List (Nat × Value)) : List (Nat × Value) :=
 match dst with
 | some d => (d, v) :: L
 | none => L
theorem Fz.put (h : Fz n L D a) {dst : Option Tmp} {v : Value} (hd : dst.all (Nat.blt · n) = true) : Fz n (setL dst v L) D (a.put dst v) := by
 cases dst with
 | none => exact h
 | some d =>
  have hd' : d < n := by simpa [Nat.blt_eq] using hd
  refine ⟨by simp [Act.put, h.size], by simp [Act.put, h.defers], fun i u hi => ?_⟩
  simp only [setL, look] at hi
  by_cases e : i = d
  ·subst e
   simp at hi
   subst hi
   simp [Act.put, h.size, hd']
  ·have : Nat.beq i d = false := beq_ne e
   simp only [this, cond_false] at hi
   have := h.has i u hi
   simp only [Act.put]
   rw [Array.getElem?_setIfInBounds_ne (Ne.symm e)]
   exact this
def SubL (L' L : List (Nat × Value)) : Prop := ∀ i v, look L' i = some v → look L i = some v
theorem SubL.nil : SubL [] L := fun i v h => by simp [look] at h
theorem SubL.cons {i : Nat} {v : Value} (h : look L i = some v) (hs : SubL L' L) : SubL ((i, v) :: L') L := by
 intro j u hj
 simp only [look] at hj
 by_cases e : j = i
 ·subst e
  simp at hj
  subst hj
  exact h
 ·have : Nat.beq j i = false := beq_ne e
  simp only [this, cond_false] at hj
  exact hs j u hj
theorem Fz.sub (h : Fz n L D a) (hs : SubL L' L) : Fz n L' D a := ⟨h.size, h.defers, fun i v hv => h.has i v (hs i v hv)⟩
theorem Fz.sub' (h : Fz n L D a) {i : Nat} {v : Value} (hv : look L i = some v) : Fz n ((i, v) :: L) D a :=
 h.sub (SubL.cons hv (fun _ _ h => h))
end
end Go.PB
namespace Go.PB
open Go.RowKit
def gdv (ops : Array Oper) (L : List (Nat × Value)) (g : Option (Nat × Bool)) : Option Bool :=
 match g with
 | none => some true
 | some (j, want) =>
  match ops[j]? with
  | none => some false
  | some oj =>
   match oj.dst with
   | none => some false
   | some d =>
    match look L d with
    | some (.bool b) => some (b == want)
    | some _ => some false
    | none => none
section
variable {P : Program} {ops : Array Oper} {Q : Exit → Act → World → Prop} {M : List Nat} {w0 : World} {n : Nat} {D : List Deferred} {L L' : List (Nat × Value)} {H H' : List Ent} {rest : List Oper}
 {dst : Option Tmp} {op : Op} {oty : TypeId} {pos : String} {after : Array Edge} {g : Option (Nat × Bool)}
theorem wanted_of {a : Act} {b : Bool} (h : Fz n L D a) (hg : gdv ops L g = some b) : Region.wanted ⟨dst, op, oty, pos, after, g⟩ (yielded ops a.tmps) = b := by
 unfold gdv at hg
 unfold Region.wanted
 cases g with
 | none => simpa using hg
 | some p =>
  obtain ⟨j, want⟩ := p
  simp only at hg ⊢
  cases ho : ops[j]? with
  | none => simp [ho] at hg; subst hg; simp [yielded, ho]
  | some oj =>
   simp only [ho] at hg
   cases hd : oj.dst with
   | none => simp [hd] at hg; subst hg; simp [yielded, ho, hd]
   | some d =>
    simp only [hd] at hg
    cases hl : look L d with
    | none => simp [hl] at hg
    | some v =>
     have hv := h.has d v hl
     simp only [hl] at hg
     cases v <;> simp at hg <;> subst hg <;> simp [yielded, ho, hd, hv]
def Wl (P : Program) (ops : Array Oper) (Q : Exit → Act → World → Prop) (M : List Nat) (w0 : World) (n : Nat) (D : List Deferred) (l : List Oper) (L : List (Nat × Value)) (H : List Ent) : Prop :=
 ∀ a w, Fz n L D a → St M w0 w H → wpList P ops Q l a w
def Ev (P : Program) (M : List Nat) (w0 : World) (n : Nat) (D : List Deferred) (L : List (Nat × Value)) (H : List Ent) (op : Op) (oty : TypeId) (v : Value) : Prop :=
 ∀ a w, Fz n L D a → St M w0 w H → ∀ (dst : Option Tmp) (pos : String) (after : Array Edge) (g : Option (Nat × Bool)), (execOp a.eval ⟨dst, op, oty, pos, after, g⟩).run P w = .ok (.value v) w
theorem Wl.skip {d : Tmp} (hg : gdv ops L g = some false) (hd : Nat.blt d n = true) (h : Wl P ops Q M w0 n D rest ((d, undef) :: L) H) : Wl P ops Q M w0 n D (⟨some d, op, oty, pos, after, g⟩ :: rest) L H := by
 intro a w hf hs
 unfold wpList
 rw [if_neg (by rw [wanted_of hf hg]; simp)]
 exact h _ _ (hf.put (dst := some d) Zct) hs
theorem Wl.skip0 (hg : gdv ops L g = some false) (h : Wl P ops Q M w0 n D rest L H) : Wl P ops Q M w0 n D (⟨none, op, oty, pos, after, g⟩ :: rest) L H := by
 intro a w hf hs
 unfold wpList
 rw [if_neg (by rw [wanted_of hf hg]; simp)]
 exact h _ _ hf hs
theorem Wl.ev {d : Tmp} {v : Value} (hg : gdv ops L g = some true) (hd : Nat.blt d n = true) (he : Ev P M w0 n D L H op oty v) (h : Wl P ops Q M w0 n D rest ((d, v) :: L) H) :
  Wl P ops Q M w0 n D (⟨some d, op, oty, pos, after, g⟩ :: rest) L H := by
 intro a w hf hs
 unfold wpList
 rw [if_pos Zck]
 refine .inl ?_
 unfold Oper.wp
 rw [he a w hf hs]
 exact h _ _ (hf.put (dst := some d) Zct) hs
theorem Wl.act {d : Tmp} {H' : List Ent} {v : Value} (hg : gdv ops L g = some true) (hd : Nat.blt d n = true)
  (hr : ∀ a w, Fz n L D a → St M w0 w H → ∃ w', (execOp a.eval ⟨some d, op, oty, pos, after, g⟩).run P w = .ok (.value v) w' ∧ St M w0 w' H')
  (h : Wl P ops Q M w0 n D rest ((d, v) :: L) H') : Wl P ops Q M w0 n D (⟨some d, op, oty, pos, after, g⟩ :: rest) L H := by
 intro a w hf hs
 unfold wpList
 rw [if_pos Zck]
 refine .inl ?_
 unfold Oper.wp
 obtain ⟨w', hr, hs'⟩ := hr a w hf hs
 rw [hr]
 exact h _ _ (hf.put (dst := some d) Zct) hs'
theorem Wl.act0 {H' : List Ent} (hg : gdv ops L g = some true)
  (hr : ∀ a w, Fz n L D a → St M w0 w H → ∃ w', (execOp a.eval ⟨none, op, oty, pos, after, g⟩).run P w = .ok .skip w' ∧ St M w0 w' H')
  (h : Wl P ops Q M w0 n D rest L H') : Wl P ops Q M w0 n D (⟨none, op, oty, pos, after, g⟩ :: rest) L H := by
 intro a w hf hs
 unfold wpList
 rw [if_pos Zck]
 refine .inl ?_
 unfold Oper.wp
 obtain ⟨w', hr, hs'⟩ := hr a w hf hs
 rw [hr]
 exact h _ _ hf hs'
def gslot (ops : Array Oper) (g : Option (Nat × Bool)) : Option Nat :=
 match g with
 | none => none
 | some (j, _) => (ops[j]?).bind (·.dst)
theorem Wl.split {p : Prop} [Decidable p] {d : Nat} (hd : gslot ops g = some d) (hv : look L d = some (.bool (decide p)))
  (ht : p → Wl P ops Q M w0 n D (⟨dst, op, oty, pos, after, g⟩ :: rest) ((d, .bool true) :: L) H)
  (hf : ¬p → Wl P ops Q M w0 n D (⟨dst, op, oty, pos, after, g⟩ :: rest) ((d, .bool false) :: L) H) : Wl P ops Q M w0 n D (⟨dst, op, oty, pos, after, g⟩ :: rest) L H := by
 have _ := hd
 intro a w hfz hs
 by_cases hp : p
 ·exact ht hp a w (hfz.sub' Zd5) hs
 ·exact hf hp a w (hfz.sub' Zd5) hs
theorem Wl.splitB {b : Bool} {d : Nat} (hd : gslot ops g = some d) (hv : look L d = some (.bool b))
  (ht : b = true → Wl P ops Q M w0 n D (⟨dst, op, oty, pos, after, g⟩ :: rest) ((d, .bool true) :: L) H)
  (hf : b = false → Wl P ops Q M w0 n D (⟨dst, op, oty, pos, after, g⟩ :: rest) ((d, .bool false) :: L) H) : Wl P ops Q M w0 n D (⟨dst, op, oty, pos, after, g⟩ :: rest) L H := by
 have _ := hd
 intro a w hfz hs
 cases hb : b with
 | true => exact ht hb a w (hfz.sub' Zew) hs
 | false => exact hf hb a w (hfz.sub' Zew) hs
end
end Go.PB
namespace Go.PB
open Go.RowKit
abbrev Kt := Sum Code (Sum Nat (Sum (Act → World → Prop) (Nat × (Act → World → Prop))))
abbrev Kt.code (c : Code) : Kt := .inl c
abbrev Kt.blk (id : Nat) : Kt := .inr (.inl id)
abbrev Kt.fin (I : Act → World → Prop) : Kt := .inr (.inr (.inl I))
def kpost (P : Program) (Z : Exit → Act → World → Prop) : List Kt → Exit → Act → World → Prop
 | [] => Z
 | .inl c :: k => Exit.then (fun a w => c.wp P (kpost P Z k) a w) (kpost P Z k)
 | .inr (.inl id) :: k => Exit.inBlock id (kpost P Z k)
 | .inr (.inr (.inl I)) :: k => Exit.then I (kpost P Z k)
 | .inr (.inr (.inr lJ)) :: k => Exit.jump lJ.1 lJ.2 (kpost P Z k)
def kexit (id : Nat) : List Kt → Option (List Kt)
 | [] => none
 | .inl _ :: k => kexit id k
 | .inr (.inl j) :: k => bif Nat.beq j id then some k else kexit id k
 | .inr (.inr (.inl _)) :: k => kexit id k
 | .inr (.inr (.inr _)) :: k => kexit id k
theorem kpost_ret {P : Program} {Z : Exit → Act → World → Prop} {a : Act} {w : World} (h : Z .ret a w) : ∀ k, kpost P Z k .ret a w
 | [] => h
 | .inl _ :: k => kpost_ret h k
 | .inr (.inl _) :: k => kpost_ret h k
 | .inr (.inr (.inl _)) :: k => kpost_ret h k
 | .inr (.inr (.inr _)) :: k => kpost_ret h k
theorem kpost_panic {P : Program} {Z : Exit → Act → World → Prop} {a : Act} {w : World} {ch : List PanicEntry} (h : Z (.panic ch) a w) : ∀ k, kpost P Z k (.panic ch) a w
 | [] => h
 | .inl _ :: k => kpost_panic h k
 | .inr (.inl _) :: k => kpost_panic h k
 | .inr (.inr (.inl _)) :: k => kpost_panic h k
 | .inr (.inr (.inr _)) :: k => kpost_panic h k
theorem kpost_exit {P : Program} {Z : Exit → Act → World → Prop} {a : Act} {w : World} {id : Nat} : ∀ {k k' : List Kt}, kexit id k = some k' → kpost P Z k' .normal a w → kpost P Z k (.exit id) a w
 | [], _, h, _ => by simp [kexit] at h
 | .inl _ :: k, _, h, hq => kpost_exit (k := k) h hq
 | .inr (.inr (.inl _)) :: k, _, h, hq => kpost_exit (k := k) h hq
 | .inr (.inr (.inr _)) :: k, _, h, hq => kpost_exit (k := k) h hq
 | .inr (.inl j) :: k, k', h, hq => by
  simp only [kexit] at h
  show (if id = j then kpost P Z k .normal a w else kpost P Z k (.exit id) a w)
  by_cases e : id = j
  ·subst e
   simp at h
   subst h
   rw [if_pos rfl]; exact hq
  ·rw [if_neg e]
   rw [beq_ne (fun e' => e e'.symm)] at h
   exact kpost_exit (k := k) h hq
def W (P : Program) (Z : Exit → Act → World → Prop) (M : List Nat) (w0 : World) (n : Nat) (D : List Deferred) (k : List Kt) (L : List (Nat × Value)) (H : List Ent) : Prop :=
 ∀ a w, Fz n L D a → St M w0 w H → kpost P Z k .normal a w
section
variable {P : Program} {Z : Exit → Act → World → Prop} {M : List Nat} {w0 : World} {n : Nat} {D : List Deferred} {L L' : List (Nat × Value)} {H H' : List Ent} {k : List Kt}
theorem Wl.nil {ops : Array Oper} (h : W P Z M w0 n D k L H) : Wl P ops (kpost P Z k) M w0 n D [] L H := fun a w hf hs => h a w hf hs
theorem W.seq {x y : Code} (h : W P Z M w0 n D (.inl x :: .inl y :: k) L H) : W P Z M w0 n D (.inl (.seq x y) :: k) L H :=
 fun a w hf hs => wp_seq (h a w hf hs)
theorem W.skip (h : W P Z M w0 n D k L H) : W P Z M w0 n D (.inl .skip :: k) L H := fun a w hf hs => wp_skip (h a w hf hs)
theorem W.block {id : Nat} {c : Code} (h : W P Z M w0 n D (.inl c :: .inr (.inl id) :: k) L H) : W P Z M w0 n D (.inl (.block id c) :: k) L H :=
 fun a w hf hs => wp_block (h a w hf hs)
theorem W.blk {id : Nat} (h : W P Z M w0 n D k L H) : W P Z M w0 n D (.inr (.inl id) :: k) L H := fun a w hf hs => h a w hf hs
theorem W.fin {I : Act → World → Prop} (h : ∀ a w, Fz n L D a → St M w0 w H → I a w) : W P Z M w0 n D (.inr (.inr (.inl I)) :: k) L H := h
theorem W.exit {id : Nat} {k' : List Kt} (hk : kexit id k = some k') (h : W P Z M w0 n D k' L H) : W P Z M w0 n D (.inl (.exit id) :: k) L H :=
 fun a w hf hs => wp_exit (kpost_exit hk (h a w hf hs))
theorem W.ret (h : ∀ a w, Fz n L D a → St M w0 w H → Z .ret a w) : W P Z M w0 n D (.inl .ret :: k) L H := fun a w hf hs => wp_ret (kpost_ret (h a w hf hs) k)
theorem W.region {id : Nat} {l : List Oper} (h : Wl P l.toArray (kpost P Z k) M w0 n D l L H) : W P Z M w0 n D (.inl (.region id l.toArray false) :: k) L H :=
 fun a w hf hs => wp_region_lit (h a w hf hs)
theorem W.condT {c : Operand} {x y : Code} (hc : evo L c = some (.bool true)) (h : W P Z M w0 n D (.inl x :: k) L H) : W P Z M w0 n D (.inl (.cond c x y) :: k) L H :=
 fun a w hf hs => wp_cond_true (hf.eval hc) (h a w hf hs)
theorem W.condF {c : Operand} {x y : Code} (hc : evo L c = some (.bool false)) (h : W P Z M w0 n D (.inl y :: k) L H) : W P Z M w0 n D (.inl (.cond c x y) :: k) L H :=
 fun a w hf hs => wp_cond_false (hf.eval hc) (h a w hf hs)
theorem W.cond {c : Operand} {x y : Code} {p : Prop} [Decidable p] (hc : evo L c = some (.bool (decide p))) (ht : p → W P Z M w0 n D (.inl x :: k) L H) (hf : ¬p → W P Z M w0 n D (.inl y :: k) L H) :
  W P Z M w0 n D (.inl (.cond c x y) :: k) L H :=
 fun a w h hs => wp_cond_split (h.eval hc) (fun e => ht (of_decide_eq_true e) a w h hs) (fun e => hf (of_decide_eq_false e) a w h hs)
theorem W.condB {c : Operand} {x y : Code} {b : Bool} (hc : evo L c = some (.bool b)) (ht : b = true → W P Z M w0 n D (.inl x :: k) L H) (hf : b = false → W P Z M w0 n D (.inl y :: k) L H) :
  W P Z M w0 n D (.inl (.cond c x y) :: k) L H :=
 fun a w h hs => wp_cond_split (h.eval hc) (fun e => ht e a w h hs) (fun e => hf e a w h hs)
theorem W.sub (hL : SubL L' L) (hH : SubH H' H) (h : W P Z M w0 n D k L' H') : W P Z M w0 n D k L H := fun a w hf hs => h a w (hf.sub hL) (hs.sub hH)
def Rg {X : Type} (Lx : X → List (Nat × Value)) (Hx : X → List Ent) (φ : X → Prop) (μ : X → Nat) (x : X) (M : List Nat) (w0 : World) (n : Nat) (D : List Deferred) : Act → World → Prop :=
 fun a w => ∃ y, φ y ∧ μ y < μ x ∧ Fz n (Lx y) D a ∧ St M w0 w (Hx y)
theorem W.loop {c : Code} {X : Type} (Lx : X → List (Nat × Value)) (Hx : X → List Ent) (φ : X → Prop) (μ : X → Nat) (x0 : X) (h0 : φ x0) (hL : SubL (Lx x0) L) (hH : SubH (Hx x0) H)
  (round : ∀ x, φ x → W P Z M w0 n D (.inl c :: .inr (.inr (.inl (Rg Lx Hx φ μ x M w0 n D))) :: k) (Lx x) (Hx x)) :
  W P Z M w0 n D (.inl (.loop c) :: k) L H := by
 intro a w hf hs
 show (Code.loop c).wp P (kpost P Z k) a w
 have key : ∀ m x a w, φ x → μ x = m → Fz n (Lx x) D a → St M w0 w (Hx x) → (Code.loop c).wp P (kpost P Z k) a w := by
  intro m x a w hφ hm hf hs
  refine wp_loop (fun a' w' => ∃ y, φ y ∧ μ y ≤ m ∧ Fz n (Lx y) D a' ∧ St M w0 w' (Hx y)) (fun a' w' => Classical.epsilon (fun i => (∃ y, φ y ∧ μ y = i ∧ Fz n (Lx y) D a' ∧ St M w0 w' (Hx y)) ∧ ∀ y, φ y → Fz n (Lx y) D a' → St M w0 w' (Hx y) → i ≤ μ y)) ⟨x, hφ, by omega, hf, hs⟩ ?_
  intro a' w' hI
  have hleast : ∃ i, (∃ y, φ y ∧ μ y = i ∧ Fz n (Lx y) D a' ∧ St M w0 w' (Hx y)) ∧ ∀ y, φ y → Fz n (Lx y) D a' → St M w0 w' (Hx y) → i ≤ μ y := by
   obtain ⟨y, h1, _, h3, h4⟩ := hI
   have hex : ∀ i, (∃ y, φ y ∧ μ y = i ∧ Fz n (Lx y) D a' ∧ St M w0 w' (Hx y)) → ∃ i, (∃ y, φ y ∧ μ y = i ∧ Fz n (Lx y) D a' ∧ St M w0 w' (Hx y)) ∧ ∀ y, φ y → Fz n (Lx y) D a' → St M w0 w' (Hx y) → i ≤ μ y := by
    intro i
    induction i using Nat.strongRecOn with
    | _ i ih =>
     intro hi
     by_cases hall : ∀ y, φ y → Fz n (Lx y) D a' → St M w0 w' (Hx y) → i ≤ μ y
     ·exact ⟨i, hi, hall⟩
     ·have : ∃ y, φ y ∧ Fz n (Lx y) D a' ∧ St M w0 w' (Hx y) ∧ μ y < i := by
       refine Classical.byContradiction fun hno => hall fun y a1 a2 a3 => ?_
       refine Nat.le_of_not_lt fun hlt => hno ⟨y, a1, a2, a3, hlt⟩
      obtain ⟨y, a1, a2, a3, hlt⟩ := this
      exact ih (μ y) hlt ⟨y, a1, rfl, a2, a3⟩
   exact hex _ ⟨y, h1, rfl, h3, h4⟩
  have hsp := Classical.epsilon_spec hleast
  generalize Classical.epsilon (fun i => (∃ y, φ y ∧ μ y = i ∧ Fz n (Lx y) D a' ∧ St M w0 w' (Hx y)) ∧ ∀ y, φ y → Fz n (Lx y) D a' → St M w0 w' (Hx y) → i ≤ μ y) = i at hsp
  obtain ⟨⟨y, h1, h2, h3, h4⟩, hmin⟩ := hsp
  have hle : μ y ≤ m := by
   obtain ⟨z, z1, z2, z3, z4⟩ := hI
   have := hmin z z1 z3 z4
   omega
  have hr := round y h1 a' w' h3 h4
  refine Code.wp_mono (fun e a2 w2 hq => ?_) hr
  cases e with
  | normal =>
   obtain ⟨z, z1, z2, z3, z4⟩ := hq
   refine ⟨⟨z, z1, by omega, z3, z4⟩, ?_⟩
   have hleast2 : ∃ i, (∃ y, φ y ∧ μ y = i ∧ Fz n (Lx y) D a2 ∧ St M w0 w2 (Hx y)) ∧ ∀ y, φ y → Fz n (Lx y) D a2 → St M w0 w2 (Hx y) → i ≤ μ y := by
    have hex : ∀ i, (∃ y, φ y ∧ μ y = i ∧ Fz n (Lx y) D a2 ∧ St M w0 w2 (Hx y)) → ∃ i, (∃ y, φ y ∧ μ y = i ∧ Fz n (Lx y) D a2 ∧ St M w0 w2 (Hx y)) ∧ ∀ y, φ y → Fz n (Lx y) D a2 → St M w0 w2 (Hx y) → i ≤ μ y := by
     intro i
     induction i using Nat.strongRecOn with
     | _ i ih =>
      intro hi
      by_cases hall : ∀ y, φ y → Fz n (Lx y) D a2 → St M w0 w2 (Hx y) → i ≤ μ y
      ·exact ⟨i, hi, hall⟩
      ·have : ∃ y, φ y ∧ Fz n (Lx y) D a2 ∧ St M w0 w2 (Hx y) ∧ μ y < i := by
        refine Classical.byContradiction fun hno => hall fun y a1 a2 a3 => ?_
        refine Nat.le_of_not_lt fun hlt => hno ⟨y, a1, a2, a3, hlt⟩
       obtain ⟨y, a1, a2, a3, hlt⟩ := this
       exact ih (μ y) hlt ⟨y, a1, rfl, a2, a3⟩
    exact hex _ ⟨z, z1, rfl, z3, z4⟩
   have hsp2 := Classical.epsilon_spec hleast2
   have := hsp2.2 z z1 z3 z4
   omega
  | exit id => exact hq
  | goto l => exact hq
  | ret => exact hq
  | panic ch => exact hq
  | outgrown => exact hq
 exact key _ x0 a w h0 rfl (hf.sub hL) (hs.sub hH)
theorem W.again {X : Type} {Lx : X → List (Nat × Value)} {Hx : X → List Ent} {φ : X → Prop} {μ : X → Nat} {x : X} (y : X) (h1 : φ y) (h2 : μ y < μ x) (hL : SubL (Lx y) L) (hH : SubH (Hx y) H) :
  W P Z M w0 n D (.inr (.inr (.inl (Rg Lx Hx φ μ x M w0 n D))) :: k) L H :=
 fun _ _ hf hs => ⟨y, h1, h2, hf.sub hL, hs.sub hH⟩
end
def argL : Nat → List Value → List (Nat × Value)
 | _, [] => []
 | i, v :: vs => (i, v) :: argL (i + 1) vs
theorem look_argL {vs : List Value} : ∀ {i j : Nat} {v : Value}, look (argL i vs) j = some v → i ≤ j ∧ vs[j - i]? = some v := by
 induction vs with
 | nil => intro i j v h; simp [argL, look] at h
 | cons u vs ih =>
  intro i j v h
  simp only [argL, look] at h
  by_cases e : j = i
  ·subst e
   simp at h
   exact ⟨Nat.le_refl _, by simp [h]⟩
  ·rw [beq_ne e] at h
   obtain ⟨h1, h2⟩ := ih h
   refine ⟨by omega, ?_⟩
   rw [show j - i = (j - (i + 1)) + 1 by omega]
   simpa using h2
theorem calls_of_W {P : Program} {f : FuncId} {fn : Func} {c : Code} {vs : List Value} {w : World} {R : Ending → World → Prop} {n : Nat} {H : List Ent} {M : List Nat}
  (hf : P.funcs[f]? = some fn) (hb : fn.body = some c) (hn : fn.ntmps = n) (hl : vs.length ≤ n) (hs : St M w w H)
  (h : W P (bodyPost P fn R) M w n [] [.inl c] (argL 0 vs) H) : Calls P f vs.toArray w R := by
 refine calls_of_wp hf hb ?_
 refine h _ _ ⟨?_, rfl, fun i v hi => ?_⟩ hs
 ·simp; omega
 ·obtain ⟨_, h2⟩ := look_argL hi
  simp only [Nat.sub_zero] at h2
  have hlt := (List.getElem?_eq_some_iff.1 h2).1
  rw [Array.getElem?_append_left (by simpa using hlt)]
  simpa using h2
section
variable {P : Program} {fn : Func} {R : Ending → World → Prop} {M : List Nat} {w0 : World} {n : Nat} {L : List (Nat × Value)} {H : List Ent} {k : List Kt}
theorem W.ret0 (hr : fn.results = #[]) (h : ∀ w, St M w0 w H → R (.returned (.tuple #[])) w) : W P (bodyPost P fn R) M w0 n [] (.inl .ret :: k) L H :=
 W.ret fun _ w hf hs => bodyPost_ret (results_none hr _ _ _) hf.defers (h w hs)
theorem W.end0 (hr : fn.results = #[]) (h : ∀ w, St M w0 w H → R (.returned (.tuple #[])) w) : W P (bodyPost P fn R) M w0 n [] [] L H :=
 fun _ w hf hs => bodyPost_end (results_none hr _ _ _) hf.defers (h w hs)
theorem W.ret1 {p : Tmp} {v : Value} (hr : fn.results = #[.tmp p]) (hv : look L p = some v) (h : ∀ w, St M w0 w H → R (.returned v) w) : W P (bodyPost P fn R) M w0 n [] (.inl .ret :: k) L H :=
 W.ret fun a w hf hs => bodyPost_ret (v := v) (by simp [results, hr, hf.has p v hv]) hf.defers (h w hs)
theorem W.ret2 {p q : Tmp} {v u : Value} (hr : fn.results = #[.tmp p, .tmp q]) (hv : look L p = some v) (hu : look L q = some u) (h : ∀ w, St M w0 w H → R (.returned (.tuple #[v, u])) w) :
  W P (bodyPost P fn R) M w0 n [] (.inl .ret :: k) L H :=
 W.ret fun a w hf hs => bodyPost_ret (v := .tuple #[v, u]) (by simp [results, hr, hf.has p v hv, hf.has q u hu]) hf.defers (h w hs)
theorem W.ret3 {p q r : Tmp} {v u t : Value} (hr : fn.results = #[.tmp p, .tmp q, .tmp r]) (hv : look L p = some v) (hu : look L q = some u) (ht : look L r = some t) (h : ∀ w, St M w0 w H → R (.returned (.tuple #[v, u, t])) w) :
  W P (bodyPost P fn R) M w0 n [] (.inl .ret :: k) L H :=
 W.ret fun a w hf hs => bodyPost_ret (v := .tuple #[v, u, t]) (by simp [results, hr, hf.has p v hv, hf.has q u hu, hf.has r t ht]) hf.defers (h w hs)
end
end Go.PB
namespace Go.PB
open Go.RowKit
def aggDesc : TypeDesc → Bool
 | .struct _ | .array _ _ => true
 | _ => false
def Sz (P : Program) (t : TypeId) (n : Nat) : Prop := (P.info? t).map (·.size) = some n
def By (P : Program) (t : TypeId) (n : Nat) : Prop := (P.info? t).map (·.bytes) = some n
def Ag (P : Program) (t : TypeId) (ag : Bool) : Prop := ∃ d, P.underlying t = some d ∧ aggDesc d = ag
def Zero (P : Program) (t : TypeId) (l : List Value) : Prop := ∃ i z, P.info? t = some i ∧ i.zero = some z ∧ z.cells = l.toArray
def Sl (P : Program) (t e : TypeId) : Prop := P.underlying t = some (.slice e)
def Fld (P : Program) (t : TypeId) (f off : Nat) (ft : TypeId) : Prop := ∃ fs fd, P.underlying t = some (.struct fs) ∧ fs[f]? = some fd ∧ fd.offset = off ∧ fd.type = ft ∧ ∃ n, Sz P ft (n + 1)
theorem run_isAgg {P : Program} {t : TypeId} {b : Bool} (hu : Ag P t b) (w : World) : (isAgg t).run P w = .ok b w := by
 obtain ⟨d, h1, h2⟩ := hu
 subst h2
 unfold isAgg
 rw [Sem.run_bind, run_underlying h1 w]
 cases d <;> rfl
theorem run_sizeOf {P : Program} {t : TypeId} {n : Nat} (hs : Sz P t n) (w : World) : (sizeOf t).run P w = .ok n w := by
 obtain ⟨i, hi, hsz⟩ := Option.map_eq_some_iff.1 hs
 simp [sizeOf, typeInfo, hi, hsz, program, Sem.run]
theorem run_zeroValue {P : Program} {t : TypeId} {l : List Value} (hz : Zero P t l) (w : World) : ∃ z, (zeroValue t).run P w = .ok z w ∧ z.cells = l.toArray := by
 obtain ⟨i, z, h1, h2, h3⟩ := hz
 exact ⟨z, by simp [zeroValue, typeInfo, h1, h2, program, Sem.run], h3⟩
theorem add_lit (b off n : Nat) : (⟨b, off, none⟩ : Addr).add n = ⟨b, off + n, none⟩ := by unfold Addr.add; split <;> simp_all
section
variable {P : Program} {M : List Nat} {w0 : World} {n : Nat} {D : List Deferred} {L : List (Nat × Value)} {H : List Ent} {oty t t' : TypeId} {x y z : Operand}
theorem ev_move {v : Value} (hx : evo L x = some v) : Ev P M w0 n D L H (.move x) oty v := fun a w hf _ _ _ _ _ => by
 simp [execOp, hf.eval hx]
theorem ev_assign {v : Value} (hx : evo L x = some v) : Ev P M w0 n D L H (.assign x) oty v := fun a w hf _ _ _ _ _ => by
 simp [execOp, hf.eval hx]
theorem ev_pickT {v : Value} (hc : evo L x = some (.bool true)) (hy : evo L y = some v) : Ev P M w0 n D L H (.pick x y z) oty v := fun a w hf _ _ _ _ _ => by
 simp [execOp, hf.eval hc, hf.eval hy, asBool]
theorem ev_pickF {v : Value} (hc : evo L x = some (.bool false)) (hz : evo L z = some v) : Ev P M w0 n D L H (.pick x y z) oty v := fun a w hf _ _ _ _ _ => by
 simp [execOp, hf.eval hc, hf.eval hz, asBool]
theorem ev_nilCheck_ptr {a : Addr} (hx : evo L x = some (.pointer (some a))) : Ev P M w0 n D L H (.nilCheck x) oty (.pointer (some a)) := fun a w hf _ _ _ _ _ => by
 simp [execOp, hf.eval hx]
theorem ev_nilCheck_func {f : FuncId} {fs cs : Array Value} (hx : evo L x = some (.func (.func f) fs cs)) : Ev P M w0 n D L H (.nilCheck x) oty (.func (.func f) fs cs) := fun a w hf _ _ _ _ _ => by
 simp [execOp, hf.eval hx]
theorem run_bin_int {P : Program} {w : World} {op : BinOp} {t t' : TypeId} {a : Act} {k : IntKind} {m j : Int} {v : Value} {dst : Option Tmp} {pos : String} {after : Array Edge} {g : Option (Nat × Bool)}
  (hx : a.eval x = .int k m) (hy : a.eval y = .int k j) (hr : (binOp op t (.int k m) (.int k j)).run P w = .ok v w) :
  (execOp a.eval ⟨dst, .binOp op t x y t', oty, pos, after, g⟩).run P w = .ok (.value v) w := by
 have hg : (eqGuard op t x y (.int k m) (.int k j)).run P w = .ok () w := by
  unfold eqGuard
  cases op <;> simp
 simp [execOp, hx, hy, hg, hr]
theorem ev_add {k : IntKind} {m j : Int} (hx : evo L x = some (.int k m)) (hy : evo L y = some (.int k j)) : Ev P M w0 n D L H (.binOp .add t x y t') oty (.int k (k.wrap (m + j))) :=
 fun a w hf _ _ _ _ _ => run_bin_int (hf.eval hx) (hf.eval hy) (by simp [binOp, Op.intArith])
theorem ev_sub {k : IntKind} {m j : Int} (hx : evo L x = some (.int k m)) (hy : evo L y = some (.int k j)) : Ev P M w0 n D L H (.binOp .sub t x y t') oty (.int k (k.wrap (m - j))) :=
 fun a w hf _ _ _ _ _ => run_bin_int (hf.eval hx) (hf.eval hy) (by simp [binOp, Op.intArith])
theorem ev_mul {k : IntKind} {m j : Int} (hx : evo L x = some (.int k m)) (hy : evo L y = some (.int k j)) : Ev P M w0 n D L H (.binOp .mul t x y t') oty (.int k (k.wrap (m * j))) :=
 fun a w hf _ _ _ _ _ => run_bin_int (hf.eval hx) (hf.eval hy) (by simp [binOp, Op.intArith])
theorem Ev.to {op : Op} {v u : Value} (h : Ev P M w0 n D L H op oty v) (e : v = u) : Ev P M w0 n D L H op oty u := e ▸ h
theorem wrap64_in {m : Int} (h : -9223372036854775808 ≤ m ∧ m < 9223372036854775808) : IntKind.i64.wrap m = m := IntWalk.i64_in _ Zf7
theorem ev_add64 {m j : Int} (hx : evo L x = some (.int .i64 m)) (hy : evo L y = some (.int .i64 j)) (hb : -9223372036854775808 ≤ m + j ∧ m + j < 9223372036854775808) :
  Ev P M w0 n D L H (.binOp .add t x y t') oty (.int .i64 (m + j)) := (ev_add hx hy).to (by rw [wrap64_in hb])
theorem ev_sub64 {m j : Int} (hx : evo L x = some (.int .i64 m)) (hy : evo L y = some (.int .i64 j)) (hb : -9223372036854775808 ≤ m - j ∧ m - j < 9223372036854775808) :
  Ev P M w0 n D L H (.binOp .sub t x y t') oty (.int .i64 (m - j)) := (ev_sub hx hy).to (by rw [wrap64_in hb])
theorem ev_mul64 {m j : Int} (hx : evo L x = some (.int .i64 m)) (hy : evo L y = some (.int .i64 j)) (hb : -9223372036854775808 ≤ m * j ∧ m * j < 9223372036854775808) :
  Ev P M w0 n D L H (.binOp .mul t x y t') oty (.int .i64 (m * j)) := (ev_mul hx hy).to (by rw [wrap64_in hb])
theorem ev_eqi {k : IntKind} {m j : Int} (hx : evo L x = some (.int k m)) (hy : evo L y = some (.int k j)) : Ev P M w0 n D L H (.binOp .eql t x y t') oty (.bool (decide (m = j))) :=
 fun a w hf _ _ _ _ _ => run_bin_int (hf.eval hx) (hf.eval hy) (by simp only [binOp, Op.intCmp]; simp; rfl)
theorem ev_nei {k : IntKind} {m j : Int} (hx : evo L x = some (.int k m)) (hy : evo L y = some (.int k j)) : Ev P M w0 n D L H (.binOp .neq t x y t') oty (.bool (decide (¬m = j))) :=
 fun a w hf _ _ _ _ _ => run_bin_int (hf.eval hx) (hf.eval hy) (by
  simp only [binOp, Op.intCmp]; simp only [ne_eq, not_true_eq_false, ↓reduceIte, Sem.run_pure]
  by_cases e : m = j <;> simp [e])
theorem ev_lti {k : IntKind} {m j : Int} (hx : evo L x = some (.int k m)) (hy : evo L y = some (.int k j)) : Ev P M w0 n D L H (.binOp .lss t x y t') oty (.bool (decide (m < j))) :=
 fun a w hf _ _ _ _ _ => run_bin_int (hf.eval hx) (hf.eval hy) Zmb
theorem ev_lei {k : IntKind} {m j : Int} (hx : evo L x = some (.int k m)) (hy : evo L y = some (.int k j)) : Ev P M w0 n D L H (.binOp .leq t x y t') oty (.bool (decide (m ≤ j))) :=
 fun a w hf _ _ _ _ _ => run_bin_int (hf.eval hx) (hf.eval hy) Zmb
theorem ev_gti {k : IntKind} {m j : Int} (hx : evo L x = some (.int k m)) (hy : evo L y = some (.int k j)) : Ev P M w0 n D L H (.binOp .gtr t x y t') oty (.bool (decide (j < m))) :=
 fun a w hf _ _ _ _ _ => run_bin_int (hf.eval hx) (hf.eval hy) Zmb
theorem ev_gei {k : IntKind} {m j : Int} (hx : evo L x = some (.int k m)) (hy : evo L y = some (.int k j)) : Ev P M w0 n D L H (.binOp .geq t x y t') oty (.bool (decide (j ≤ m))) :=
 fun a w hf _ _ _ _ _ => run_bin_int (hf.eval hx) (hf.eval hy) Zmb
theorem ev_notT (hx : evo L x = some (.bool true)) : Ev P M w0 n D L H (.unOp .not t x) oty (.bool false) := fun a w hf _ _ _ _ _ => by simp [execOp, hf.eval hx, Op.unary]
theorem ev_notF (hx : evo L x = some (.bool false)) : Ev P M w0 n D L H (.unOp .not t x) oty (.bool true) := fun a w hf _ _ _ _ _ => by simp [execOp, hf.eval hx, Op.unary]
theorem ev_notD {p : Prop} [Decidable p] (hx : evo L x = some (.bool (decide p))) : Ev P M w0 n D L H (.unOp .not t x) oty (.bool (decide ¬p)) := fun a w hf _ _ _ _ _ => by simp [execOp, hf.eval hx, Op.unary]
theorem ev_notB {b : Bool} (hx : evo L x = some (.bool b)) : Ev P M w0 n D L H (.unOp .not t x) oty (.bool !b) := fun a w hf _ _ _ _ _ => by simp [execOp, hf.eval hx, Op.unary]
theorem bytes_toList (l : List UInt8) : (ByteArray.mk l.toArray).toList = l := by simp [ByteArray.toList_eq]
theorem bytes_size (l : List UInt8) : (ByteArray.mk l.toArray).size = l.length := by simp [ByteArray.size]
theorem run_bin_string {P : Program} {w : World} {op : BinOp} {t t' : TypeId} {a : Act} {p q : ByteArray} {v : Value} {dst : Option Tmp} {pos : String} {after : Array Edge} {g : Option (Nat × Bool)}
  (hx : a.eval x = .string p) (hy : a.eval y = .string q) (hr : (Op.stringOp op p q).run P w = .ok v w) (h1 : op ≠ .shl) (h2 : op ≠ .shr) :
  (execOp a.eval ⟨dst, .binOp op t x y t', oty, pos, after, g⟩).run P w = .ok (.value v) w := by
 have hg : (eqGuard op t x y (.string p) (.string q)).run P w = .ok () w := by
  unfold eqGuard
  cases op <;> simp
 have hb : (binOp op t (.string p) (.string q)) = Op.stringOp op p q := by
  cases op <;> first | rfl | exact absurd rfl h1 | exact absurd rfl h2
 simp [execOp, hx, hy, hg, hb, hr]
theorem ev_eqs {l m : List UInt8} (hx : evo L x = some (.string ⟨l.toArray⟩)) (hy : evo L y = some (.string ⟨m.toArray⟩)) : Ev P M w0 n D L H (.binOp .eql t x y t') oty (.bool (decide (l = m))) :=
 fun a w hf _ _ _ _ _ => run_bin_string (hf.eval hx) (hf.eval hy) Zft Zgh Zgh
theorem ev_nes {l m : List UInt8} (hx : evo L x = some (.string ⟨l.toArray⟩)) (hy : evo L y = some (.string ⟨m.toArray⟩)) : Ev P M w0 n D L H (.binOp .neq t x y t') oty (.bool (decide (¬l = m))) :=
 fun a w hf _ _ _ _ _ => run_bin_string (hf.eval hx) (hf.eval hy) Zft Zgh Zgh
theorem ev_cat {l m : List UInt8} (hx : evo L x = some (.string ⟨l.toArray⟩)) (hy : evo L y = some (.string ⟨m.toArray⟩)) (hb : (l.length : Int) + m.length < 9223372036854775808) :
  Ev P M w0 n D L H (.binOp .add t x y t') oty (.string ⟨(l ++ m).toArray⟩) :=
 fun a w hf _ _ _ _ _ => run_bin_string (hf.eval hx) (hf.eval hy) (by
  have e : IntKind.i64.max = 9223372036854775807 := by decide
  simp only [Op.stringOp, bytes_size, e]
  rw [if_neg Zf7]
  simp only [Sem.run_pure]
  congr 2) Zgh Zgh
theorem ev_len_string {l : List UInt8} (ht : P.underlying t = some .string) (hx : evo L x = some (.string ⟨l.toArray⟩)) : Ev P M w0 n D L H (.call { callee := .builtin .len, args := #[x], argTypes := #[t] }) oty (.int .i64 l.length) :=
 fun a w hf _ _ _ _ _ => by
  simp [execOp, resolve, invoke, builtin, hf.eval hx, Builtin.len_, run_underlying ht, goInt, bytes_size]
theorem ev_len_slice {e : TypeId} {p : Option Addr} {m c : Nat} (ht : Sl P t e) (hx : evo L x = some (.slice p m c)) : Ev P M w0 n D L H (.call { callee := .builtin .len, args := #[x], argTypes := #[t] }) oty (.int .i64 m) :=
 fun a w hf _ _ _ _ _ => by
  simp [execOp, resolve, invoke, builtin, hf.eval hx, Builtin.len_, run_underlying ht, goInt]
theorem ev_index_string {l : List UInt8} {k : IntKind} {i : Int} (ht : P.underlying t = some .string) (hx : evo L x = some (.string ⟨l.toArray⟩)) (hy : evo L y = some (.int k i)) (hb : 0 ≤ i ∧ i < l.length) :
  Ev P M w0 n D L H (.index t x y) oty (.int .u8 (l.getD i.toNat 0).toNat) :=
 fun a w hf _ _ _ _ _ => by
  have hlt : i.toNat < l.length := by omega
  have e : (ByteArray.mk l.toArray)[i.toNat]? = some (l.getD i.toNat 0) := by
   simp [bytes_size, hlt, List.getD]
   rfl
  simp [execOp, hf.eval hx, hf.eval hy, Instr.index, asIntOf, run_underlying ht, hb.1, e]
theorem extract_bytes (l : List UInt8) (i j : Nat) : (ByteArray.mk l.toArray).extract i j = ⟨((l.take j).drop i).toArray⟩ := by
 apply ByteArray.ext
 simp [ByteArray.data_extract, List.drop_take]
theorem ev_slice_string {l : List UInt8} {lo hi : Operand} {k k' : IntKind} {i j : Int} (ht : P.underlying t = some .string) (hx : evo L x = some (.string ⟨l.toArray⟩))
  (hlo : evo L lo = some (.int k i)) (hhi : evo L hi = some (.int k' j)) (hb : 0 ≤ i ∧ i ≤ j ∧ j ≤ l.length) : Ev P M w0 n D L H (.slice t x (some lo) (some hi) none) oty (.string ⟨((l.take j.toNat).drop i.toNat).toArray⟩) :=
 fun a w hf _ _ _ _ _ => by
  have h0 : 0 ≤ j := by omega
  simp [execOp, hf.eval hx, hf.eval hlo, hf.eval hhi, Instr.sliceAt, Instr.slice, Instr.sliceBounds, Instr.sliceBound, asIntOf, run_underlying ht, bytes_size, hb.1, hb.2.2, h0, extract_bytes]
  intro h
  omega
theorem ev_slice_string_lo {l : List UInt8} {lo : Operand} {k : IntKind} {i : Int} (ht : P.underlying t = some .string) (hx : evo L x = some (.string ⟨l.toArray⟩))
  (hlo : evo L lo = some (.int k i)) (hb : 0 ≤ i ∧ i ≤ l.length) : Ev P M w0 n D L H (.slice t x (some lo) none none) oty (.string ⟨(l.drop i.toNat).toArray⟩) :=
 fun a w hf _ _ _ _ _ => by
  have e := extract_bytes l i.toNat l.length
  rw [List.take_length] at e
  simp [execOp, hf.eval hx, hf.eval hlo, Instr.sliceAt, Instr.slice, Instr.sliceBounds, Instr.sliceBound, asIntOf, run_underlying ht, bytes_size, hb.1, hb.2, e]
theorem ev_slice_string_hi {l : List UInt8} {hi : Operand} {k' : IntKind} {j : Int} (ht : P.underlying t = some .string) (hx : evo L x = some (.string ⟨l.toArray⟩))
  (hhi : evo L hi = some (.int k' j)) (hb : 0 ≤ j ∧ j ≤ l.length) : Ev P M w0 n D L H (.slice t x none (some hi) none) oty (.string ⟨(l.take j.toNat).toArray⟩) :=
 fun a w hf _ _ _ _ _ => by
  have e := extract_bytes l 0 j.toNat
  rw [List.drop_zero] at e
  simp [execOp, hf.eval hx, hf.eval hhi, Instr.sliceAt, Instr.slice, Instr.sliceBounds, Instr.sliceBound, asIntOf, run_underlying ht, bytes_size, hb.1, hb.2, e]
theorem ev_conv {k k' : IntKind} {m : Int} (hs : ∃ d, P.underlying t = some d) (ht : P.underlying t' = some (.int k)) (hx : evo L x = some (.int k' m)) : Ev P M w0 n D L H (.convert t t' x) oty (.int k (k.wrap m)) :=
 fun a w hf _ _ _ _ _ => by
  obtain ⟨d, hd⟩ := hs
  simp only [execOp, hf.eval hx, convert, Sem.run_bind, run_underlying hd, run_underlying ht, Result.andThen_ok]
  cases d <;> simp [Conv.intToInt]
theorem ev_max {k k' : IntKind} {m j : Int} {ats : Array TypeId} (hx : evo L x = some (.int k m)) (hy : evo L y = some (.int k' j)) : Ev P M w0 n D L H (.call { callee := .builtin .max, args := #[x, y], argTypes := ats }) oty (.int k (max m j)) :=
 fun a w hf _ _ _ _ _ => by
  have e : (if m < j then j else m) = max m j := by omega
  simp [execOp, resolve, invoke, builtin, hf.eval hx, hf.eval hy, Builtin.max_, Builtin.max2, e]
theorem ev_min {k k' : IntKind} {m j : Int} {ats : Array TypeId} (hx : evo L x = some (.int k m)) (hy : evo L y = some (.int k' j)) : Ev P M w0 n D L H (.call { callee := .builtin .min, args := #[x, y], argTypes := ats }) oty (.int k (min m j)) :=
 fun a w hf _ _ _ _ _ => by
  have e : (if j < m then j else m) = min m j := by omega
  simp [execOp, resolve, invoke, builtin, hf.eval hx, hf.eval hy, Builtin.min_, Builtin.min2, e]
theorem ev_neg {k : IntKind} {m : Int} (hx : evo L x = some (.int k m)) : Ev P M w0 n D L H (.unOp .neg t x) oty (.int k (k.wrap (-m))) := fun a w hf _ _ _ _ _ => by
 simp [execOp, hf.eval hx, Op.unary, Op.intArith]
theorem ev_neg64 {m : Int} (hx : evo L x = some (.int .i64 m)) (hb : -9223372036854775808 < m ∧ m ≤ 9223372036854775808) : Ev P M w0 n D L H (.unOp .neg t x) oty (.int .i64 (-m)) :=
 (ev_neg hx).to (by rw [wrap64_in Zf7])
theorem ev_fieldAddr {f off k : Nat} {ft : TypeId} {b : Nat} (hf' : Fld P t f k ft) (hx : evo L x = some (.pointer (some ⟨b, off, none⟩))) : Ev P M w0 n D L H (.fieldAddr t x f) oty (.pointer (some ⟨b, off + k, none⟩)) :=
 fun a w hf _ _ _ _ _ => by
  obtain ⟨fs, fd, h1, h2, h3, h4, m, h5⟩ := hf'
  subst h4
  simp [execOp, hf.eval hx, Instr.fieldAt, Instr.sureAddr, run_underlying h1, h2, fieldPlace, run_sizeOf h5, add_lit, h3]
theorem ev_fieldAddr0 {f k : Nat} {ft : TypeId} {b : Nat} (hf' : Fld P t f k ft) (hx : evo L x = some (.pointer (some ⟨b, 0, none⟩))) : Ev P M w0 n D L H (.fieldAddr t x f) oty (.pointer (some ⟨b, k, none⟩)) :=
 (ev_fieldAddr hf' hx).to (by rw [Nat.zero_add])
theorem ev_indexAddr {e : TypeId} {sz b off m c : Nat} {k : IntKind} {i : Int} (ht : Sl P t e) (hs : Sz P e sz) (hx : evo L x = some (.slice (some ⟨b, off, none⟩) m c)) (hy : evo L y = some (.int k i)) (hb : 0 ≤ i ∧ i < m) :
  Ev P M w0 n D L H (.indexAddr t x y) oty (.pointer (some ⟨b, off + i.toNat * sz, none⟩)) :=
 fun a w hf _ _ _ _ _ => by
  have ht' : P.underlying t = some (.slice e) := ht
  simp [execOp, hf.eval hx, hf.eval hy, Instr.indexAt, asIntOf, run_underlying ht', hb.1, hb.2, run_sizeOf hs, add_lit]
theorem cell_row {w : World} {b : Nat} {l : List Value} {e : TypeId} (h : w.heap[b]? = some (row l e)) (i : Nat) : w.cell? ⟨b, i, none⟩ = l[i]? := by
 simp [World.cell?, h, row]
theorem cell_cells {w : World} {b : Nat} {c : Array Value} {e : TypeId} {fr : Nat × Nat} (h : w.heap[b]? = some (.cells c e fr)) (i : Nat) : w.cell? ⟨b, i, none⟩ = c[i]? := by
 simp [World.cell?, h]
theorem ev_load {b off : Nat} {wr : Bool} {l : List Value} {e : TypeId} {v : Value} (hu : Ag P t false) (hx : evo L x = some (.pointer (some ⟨b, off, none⟩))) (hm : (⟨b, wr, row l e⟩ : Ent) ∈ H) (hl : l[off]? = some v) :
  Ev P M w0 n D L H (.load t x) oty v :=
 fun a w hf hs _ _ _ _ => by
  have hc := (cell_row (hs.get hm) off).trans hl
  simp [execOp, hf.eval hx, Instr.loadAt, Instr.sureAddr, loadVar, run_isAgg hu, load, Sem.run, hc]
theorem run_loadAgg {w : World} (hu : Ag P t true) {m : Nat} (hs : Sz P t m) {b off : Nat} {lv : List Value} (hn : lv.length = m) (hc : ∀ j v, lv[j]? = some v → w.cell? ⟨b, off + j, none⟩ = some v) :
  (loadVar t ⟨b, off, none⟩).run P w = .ok (.agg lv.toArray) w := by
 have hl := run_loadCells_list (P := P) w ⟨b, off, none⟩ lv (fun j v hj => by rw [add_lit]; exact hc j v hj)
 simp [loadVar, run_isAgg hu, run_sizeOf hs, ← hn, hl]
theorem ev_loadAgg {b off m : Nat} {wr : Bool} {l lv : List Value} {e : TypeId} (hu : Ag P t true) (hz : Sz P t m) (hx : evo L x = some (.pointer (some ⟨b, off, none⟩))) (hm : (⟨b, wr, row l e⟩ : Ent) ∈ H)
  (hl : (l.drop off).take m = lv) (hn : lv.length = m) : Ev P M w0 n D L H (.load t x) oty (.agg lv.toArray) :=
 fun a w hf hs _ _ _ _ => by
  have hr := run_loadAgg (w := w) hu hz (b := b) (off := off) hn (fun j v hj => by
   rw [cell_row (hs.get hm)]
   rw [← hl, List.getElem?_take] at hj
   split at hj
   ·simpa using hj
   ·cases hj)
  simp [execOp, hf.eval hx, Instr.loadAt, Instr.sureAddr, hr]
theorem ev_loadWhole {b m : Nat} {wr : Bool} {l : List Value} {e : TypeId} (hu : Ag P t true) (hz : Sz P t m) (hx : evo L x = some (.pointer (some ⟨b, 0, none⟩))) (hm : (⟨b, wr, row l e⟩ : Ent) ∈ H) (hn : l.length = m) :
  Ev P M w0 n D L H (.load t x) oty (.agg l.toArray) :=
 ev_loadAgg hu hz hx hm (by subst hn; simp) hn
theorem ev_loadAt {b off : Nat} {wr : Bool} {c : Array Value} {fr : Nat × Nat} {e : TypeId} {v : Value} (hu : Ag P t false) (hx : evo L x = some (.pointer (some ⟨b, off, none⟩))) (hm : (⟨b, wr, .cells c e fr⟩ : Ent) ∈ H) (hl : c[off]? = some v) :
  Ev P M w0 n D L H (.load t x) oty v :=
 fun a w hf hs _ _ _ _ => by
  have hc := (cell_cells (hs.get hm) off).trans hl
  simp [execOp, hf.eval hx, Instr.loadAt, Instr.sureAddr, loadVar, run_isAgg hu, load, Sem.run, hc]
theorem ev_loadAggAt {b off m : Nat} {wr : Bool} {c : Array Value} {fr : Nat × Nat} {lv : List Value} {e : TypeId} (hu : Ag P t true) (hz : Sz P t m) (hx : evo L x = some (.pointer (some ⟨b, off, none⟩))) (hm : (⟨b, wr, .cells c e fr⟩ : Ent) ∈ H)
  (hl : ∀ j v, lv[j]? = some v → c[off + j]? = some v) (hn : lv.length = m) : Ev P M w0 n D L H (.load t x) oty (.agg lv.toArray) :=
 fun a w hf hs _ _ _ _ => by
  have hr := run_loadAgg (w := w) hu hz (b := b) (off := off) hn (fun j v hj => by rw [cell_cells (hs.get hm)]; exact hl j v hj)
  simp [execOp, hf.eval hx, Instr.loadAt, Instr.sureAddr, hr]
theorem ev_extract {vs : Array Value} {i : Nat} {v : Value} (hx : evo L x = some (.tuple vs)) (hv : vs[i]? = some v) : Ev P M w0 n D L H (.extract x i) oty v := fun a w hf _ _ _ _ _ => by
 simp [execOp, hf.eval hx, Instr.extract, hv]
theorem ev_field {cs : List Value} {f k : Nat} {ft : TypeId} {v : Value} (hf' : Fld P t f k ft) (hu : Ag P ft false) (hx : evo L x = some (.agg cs.toArray)) (hv : cs[k]? = some v) : Ev P M w0 n D L H (.field t x f) oty v := fun a w hf _ _ _ _ _ => by
 obtain ⟨fs, fd, h1, h2, h3, h4, m, h5⟩ := hf'
 subst h4
 simp [execOp, hf.eval hx, Instr.field, run_underlying h1, h2, asAgg, part, run_isAgg hu, h3, hv]
def evos (L : List (Nat × Value)) : List Operand → Option (List Value)
 | [] => some []
 | x :: xs => match evo L x, evos L xs with
  | some v, some vs => some (v :: vs)
  | _, _ => none
theorem Fz.evals {a : Act} (h : Fz n L D a) : ∀ {xs : List Operand} {vs : List Value}, evos L xs = some vs → xs.map a.eval = vs
 | [], vs, e => by simp [evos] at e; simp [e]
 | x :: xs, vs, e => by
  simp only [evos] at e
  split at e
  ·rename_i v vs' h1 h2
   simp at e
   subst e
   simp [h.eval h1, h.evals h2]
  ·cases e
def fillP (pl : List (Nat × Nat)) : List Value → List (Nat × Value) → Option (List Value)
 | cells, [] => some cells
 | cells, (i, v) :: rest =>
  match pl[i]? with
  | none => none
  | some (off, sz) =>
   match v with
   | .agg cs => if cs.size = sz ∧ off + sz ≤ cells.length then fillP pl (cells.take off ++ cs.toList ++ cells.drop (off + sz)) rest else none
   | .tuple _ => none
   | u => if sz = 1 ∧ off < cells.length then fillP pl (cells.set off u) rest else none
theorem foldl_set (cs : List Value) : ∀ (cells : List Value) (off : Nat), off + cs.length ≤ cells.length →
  (cs.zipIdx.foldl (fun (acc : Array Value) (p : Value × Nat) => acc.setIfInBounds (off + p.2) p.1) cells.toArray) = (cells.take off ++ cs ++ cells.drop (off + cs.length)).toArray := by
 intro cells off h
 have key : ∀ (cs : List Value) (k : Nat) (cells : List Value), off + k + cs.length ≤ cells.length →
   ((cs.zipIdx k).foldl (fun (acc : Array Value) (p : Value × Nat) => acc.setIfInBounds (off + p.2) p.1) cells.toArray) = (cells.take (off + k) ++ cs ++ cells.drop (off + k + cs.length)).toArray := by
  intro cs
  induction cs with
  | nil => intro k cells _; simp
  | cons c cs ih =>
   intro k cells hl
   simp only [List.length_cons] at hl
   simp only [List.zipIdx_cons, List.foldl_cons]
   rw [show cells.toArray.setIfInBounds (off + k) c = (cells.set (off + k) c).toArray by simp]
   rw [ih (k + 1) (cells.set (off + k) c) Zja]
   congr 1
   apply List.ext_getElem?
   intro j
   simp only [List.getElem?_append, List.length_append, List.length_take, List.length_set, List.length_cons, List.getElem?_take, List.getElem?_set, List.getElem?_drop]
   by_cases h1 : j < off + k
   ·simp [show j < off + (k + 1) by omega, h1, show off + k ≠ j by omega, show min (off + (k+1)) cells.length = off + (k + 1) by omega, show min (off + k) cells.length = off + k by omega, show j < off + (k + 1) + cs.length by omega, show j < off + k + (cs.length + 1) by omega]
   ·by_cases h2 : j = off + k
    ·subst h2
     simp [show min (off + (k+1)) cells.length = off + (k + 1) by omega, show min (off + k) cells.length = off + k by omega, show off + k < off + (k + 1) by omega, show off + k < off + (k + 1) + cs.length by omega, show off + k < cells.length by omega]
    ·simp [show min (off + (k+1)) cells.length = off + (k + 1) by omega, show min (off + k) cells.length = off + k by omega, show ¬ j < off + (k + 1) by omega, h1, show off + k + (cs.length + 1) = off + (k + 1) + cs.length by omega]
     by_cases h3 : j < off + (k + 1) + cs.length
     ·simp [h3, show j - (off + k) = (j - (off + (k + 1))) + 1 by omega]
     ·simp [h3, show off + k ≠ off + (k + 1) + cs.length + (j - (off + (k + 1) + cs.length)) by omega]
 simpa using key cs 0 cells Zl3
theorem fill_of {pl : List (Nat × Nat)} {place : Nat → Option (Nat × Nat)} (hp : ∀ i p, pl[i]? = some p → place i = some p) : ∀ (parts : List (Nat × Value)) (cells lv : List Value), fillP pl cells parts = some lv → Instr.fill place cells.toArray parts = some lv.toArray
 | [], cells, lv, h => by simp [fillP] at h; simp [Instr.fill, h]
 | (i, v) :: rest, cells, lv, h => by
  simp only [fillP] at h
  split at h
  ·cases h
  ·rename_i off sz hpl
   have e := hp i _ hpl
   have one : ∀ u : Value, u.cells = #[u] → (if sz = 1 ∧ off < cells.length then fillP pl (cells.set off u) rest else none) = some lv → Instr.fill place cells.toArray ((i, u) :: rest) = some lv.toArray := by
    intro u hu h
    split at h
    ·rename_i hc
     have ih := fill_of hp rest _ _ h
     simp [Instr.fill, e, hu, hc.1, show ¬ cells.length < off + 1 by omega, ih]
    ·cases h
   cases v with
   | agg cs =>
    simp only at h
    split at h
    ·rename_i hc
     have ih := fill_of hp rest _ _ h
     have hf := foldl_set cs.toList cells off (by simpa [hc.1] using hc.2)
     have hl : cs.toList.length = sz := by simpa using hc.1
     rw [hl] at hf
     have hz : cs.zipIdx.foldl (fun (acc : Array Value) (p : Value × Nat) => acc.setIfInBounds (off + p.2) p.1) cells.toArray = (cells.take off ++ cs.toList ++ cells.drop (off + sz)).toArray := by
      rw [← hf, ← Array.foldl_toList]
      simp [Array.toList_zipIdx]
     simp only [Instr.fill, e]
     split
     ·rename_i hno
      simp [Value.cells, hc.1] at hno
      omega
     ·show Instr.fill place (cs.zipIdx.foldl (fun (acc : Array Value) (p : Value × Nat) => acc.setIfInBounds (off + p.2) p.1) cells.toArray) rest = some lv.toArray
      rw [hz]
      exact ih
    ·cases h
   | tuple vs => simp at h
   | bool b => exact one _ rfl h
   | int k m => exact one _ rfl h
   | float k m => exact one _ rfl h
   | complex k m j => exact one _ rfl h
   | string s => exact one _ rfl h
   | pointer p => exact one _ rfl h
   | slice p m c => exact one _ rfl h
   | map r => exact one _ rfl h
   | chan r => exact one _ rfl h
   | func f fs cs => exact one _ rfl h
   | nilFunc => exact one _ rfl h
   | iface u v => exact one _ rfl h
   | nilIface => exact one _ rfl h
def Bld (P : Program) (t : TypeId) (z : List Value) (pl : List (Nat × Nat)) : Prop :=
 Zero P t z ∧ ((∃ fs, P.underlying t = some (.struct fs) ∧ fs.toList.mapM (fun f => (P.info? f.type).map fun i => (f.offset, i.size)) = some pl) ∨
  ∃ m e sz, P.underlying t = some (.array m e) ∧ Sz P e sz ∧ pl = (List.range m).map fun i => (i * sz, sz))
def evps (L : List (Nat × Value)) : List (Nat × Operand) → Option (List (Nat × Value))
 | [] => some []
 | (i, x) :: xs => match evo L x, evps L xs with
  | some v, some vs => some ((i, v) :: vs)
  | _, _ => none
theorem Fz.evalps {a : Act} (h : Fz n L D a) : ∀ {xs : List (Nat × Operand)} {vs : List (Nat × Value)}, evps L xs = some vs → xs.map (fun p => (p.1, a.eval p.2)) = vs
 | [], vs, e => by simp [evps] at e; simp [e]
 | (i, x) :: xs, vs, e => by
  simp only [evps] at e
  split at e
  ·rename_i v vs' h1 h2
   simp at e
   subst e
   simp [h.eval h1, h.evalps h2]
  ·cases e
theorem run_bld {w : World} {zl lv : List Value} {pl : List (Nat × Nat)} {vs : List (Nat × Value)} (hb : Bld P t zl pl) (hfl : fillP pl zl vs = some lv) : (Instr.build t vs.toArray).run P w = .ok (.agg lv.toArray) w := by
 obtain ⟨⟨it, z, h1, h2, h3⟩, hb⟩ := hb
 refine Go.run_build w t vs.toArray lv.toArray ?_
 rcases hb with ⟨fs, hu, hpl⟩ | ⟨m, e, sz, hu, hsz, rfl⟩
 ·have hfill := fill_of (pl := pl) (place := fun i => pl.toArray[i]?) (fun i p h => by simpa using h) vs zl lv hfl
  simp [Program.built, h1, hu, h2, hpl, h3]
  simpa using hfill
 ·obtain ⟨ie, hie, hsz'⟩ := Option.map_eq_some_iff.1 hsz
  have hfill := fill_of (pl := (List.range m).map fun i => (i * sz, sz)) (place := fun i => some (i * sz, sz)) (fun i p h => by
   rw [List.getElem?_map] at h
   obtain ⟨q, h1, h2⟩ := Option.map_eq_some_iff.1 h
   obtain ⟨_, h1'⟩ := List.getElem?_eq_some_iff.1 h1
   have : q = i := by simpa using h1'.symm
   subst this
   simp [← h2]) vs zl lv hfl
  simp [Program.built, h1, hu, h2, h3, hie, hsz', hfill]
theorem ev_build {zl lv : List Value} {pl : List (Nat × Nat)} {ps : List (Nat × Operand)} {vs : List (Nat × Value)} (hb : Bld P t zl pl) (hv : evps L ps = some vs) (hfl : fillP pl zl vs = some lv) :
  Ev P M w0 n D L H (.build t ps.toArray) oty (.agg lv.toArray) := fun a w hf _ _ _ _ _ => by
 have h1 := hf.evalps hv
 have h2 := run_bld (w := w) hb hfl
 simp only [execOp, List.map_toArray]
 simp [h1, h2]
end
end Go.PB
namespace Go.PB
open Go.RowKit
section
variable {P : Program} {ops : Array Oper} {Q : Exit → Act → World → Prop} {M : List Nat} {w0 : World} {n : Nat} {D : List Deferred} {L L' : List (Nat × Value)} {H H' : List Ent} {rest : List Oper}
 {d : Tmp} {dst : Option Tmp} {oty t t' : TypeId} {pos : String} {after : Array Edge} {g : Option (Nat × Bool)} {x y z : Operand}
theorem wl_new {op : Op} {o : Obj} {v : Nat → Value} (hg : gdv ops L g = some true) (hd : Nat.blt d n = true)
  (hr : ∀ a w, Fz n L D a → St M w0 w H → (execOp a.eval ⟨some d, op, oty, pos, after, g⟩).run P w = .ok (.value (v w.heap.size)) (w.alloc o))
  (h : ∀ b, Wl P ops Q M w0 n D rest ((d, v b) :: L) (⟨b, true, o⟩ :: H)) : Wl P ops Q M w0 n D (⟨some d, op, oty, pos, after, g⟩ :: rest) L H := by
 intro a w hf hs
 unfold wpList
 rw [if_pos Zck]
 refine .inl ?_
 unfold Oper.wp
 rw [hr a w hf hs]
 exact h _ _ _ (hf.put (dst := some d) Zct) (hs.alloc o)
theorem wl_box {l : List Value} {v : Value} (hg : gdv ops L g = some true) (hd : Nat.blt d n = true) (hx : evo L x = some v) (hv : v.cells = l.toArray)
  (h : ∀ b, Wl P ops Q M w0 n D rest ((d, .pointer (some ⟨b, 0, none⟩)) :: L) (⟨b, true, row l t⟩ :: H)) : Wl P ops Q M w0 n D (⟨some d, .box t x, oty, pos, after, g⟩ :: rest) L H :=
 wl_new (o := row l t) (v := fun b => .pointer (some ⟨b, 0, none⟩)) hg hd (fun a w hf _ => by
  simp [execOp, Instr.box, newVar, newRow, newObj, hf.eval hx, hv, Sem.run, row]) h
theorem wl_alloc {l : List Value} (hg : gdv ops L g = some true) (hd : Nat.blt d n = true) (hz : Zero P t l)
  (h : ∀ b, Wl P ops Q M w0 n D rest ((d, .pointer (some ⟨b, 0, none⟩)) :: L) (⟨b, true, row l t⟩ :: H)) : Wl P ops Q M w0 n D (⟨some d, .alloc t, oty, pos, after, g⟩ :: rest) L H :=
 wl_new (o := row l t) (v := fun b => .pointer (some ⟨b, 0, none⟩)) hg hd (fun a w _ _ => by
  obtain ⟨zv, h1, h2⟩ := run_zeroValue hz w
  simp [execOp, Instr.alloc, h1, newVar, newRow, newObj, h2, Sem.run, row]) h
theorem wl_buildSlice {e : TypeId} {len sz : Nat} {zl lv : List Value} {ps : List (Nat × Operand)} {vs : List (Nat × Value)} (hg : gdv ops L g = some true) (hd : Nat.blt d n = true) (ht : Sl P t e) (hs : Sz P e sz) (hz : Zero P e zl)
  (hzl : zl.length = sz) (hlen : len * sz ≤ 16777216) (hv : evps L ps = some vs)
  (hfl : fillP ((List.range len).map fun i => (i * sz, sz)) ((List.replicate len zl).flatten) vs = some lv)
  (h : ∀ b, Wl P ops Q M w0 n D rest ((d, .slice (some ⟨b, 0, none⟩) len len) :: L) (⟨b, true, row lv e⟩ :: H)) : Wl P ops Q M w0 n D (⟨some d, .buildSlice t len ps.toArray, oty, pos, after, g⟩ :: rest) L H :=
 wl_new (o := row lv e) (v := fun b => .slice (some ⟨b, 0, none⟩) len len) hg hd (fun a w hf _ => by
  obtain ⟨zv, h1, h2⟩ := run_zeroValue hz w
  have hev := hf.evalps hv
  have ht' : P.underlying t = some (.slice e) := ht
  have hfill := fill_of (pl := (List.range len).map fun i => (i * sz, sz)) (place := fun i => some (i * sz, sz)) (fun i p h => by
   rw [List.getElem?_map] at h
   obtain ⟨q, h1, h2⟩ := Option.map_eq_some_iff.1 h
   obtain ⟨_, h1'⟩ := List.getElem?_eq_some_iff.1 h1
   have : q = i := by simpa using h1'.symm
   subst this
   simp [← h2]) vs _ lv hfl
  have hzero : ∀ q : Nat, ((List.range (q * sz)).map (fun i => zl.toArray[i % zl.toArray.size]!)) = (List.replicate q zl).flatten := by
   intro q
   induction q with
   | zero => simp
   | succ q ih =>
    rw [Nat.succ_mul, List.range_add, List.map_append, ih, List.replicate_succ', List.flatten_append]
    congr 1
    simp only [List.flatten_cons, List.flatten_nil, List.append_nil, List.map_map]
    apply List.ext_getElem?
    intro j
    simp only [List.getElem?_map, List.size_toArray, hzl]
    by_cases hj : j < sz
    ·have : (q * sz + j) % sz = j := by rw [Nat.mul_comm, Nat.mul_add_mod, Nat.mod_eq_of_lt hj]
     simp [hj, this, hzl]
    ·rw [List.getElem?_eq_none Zmg, List.getElem?_eq_none Zf7]
     rfl
  have hzr : ((Array.range (len * sz)).map fun i => zl.toArray[i % zl.toArray.size]!) = ((List.replicate len zl).flatten).toArray := by
   rw [← hzero len]
   apply Array.ext'
   simp [Array.toList_range]
  by_cases h0 : len * sz = 0
  ·have hnil : ((List.replicate len zl).flatten) = [] := by
    apply List.eq_nil_of_length_eq_zero
    simp [hzl, h0]
   rw [hnil] at hfill
   simp [execOp, Instr.buildSlice, run_underlying ht', run_sizeOf hs, h0, hev, newRow, newObj, row]
   rw [show (Array.map (fun _ => (default : Value)) (Array.range 0)) = #[] from Array.ext' Zgh]
   simp [hfill, Sem.run]
  ·simp only [List.size_toArray] at hzr
   simp [execOp, Instr.buildSlice, run_underlying ht', run_sizeOf hs, h0, h1, h2, hev, newRow, newObj, row, show ¬ 16777216 < len * sz by omega]
   simp at hzr
   rw [hzr]
   simp [hfill, Sem.run]) h
def spl (l : List Value) (off : Nat) (lv : List Value) : List Value := l.take off ++ lv ++ l.drop (off + lv.length)
theorem spl_whole {l lv : List Value} (h : lv.length = l.length) : spl l 0 lv = lv := by simp [spl, h]
theorem spl_one {l : List Value} {off : Nat} {v : Value} (h : off < l.length) : spl l off [v] = l.set off v := by
 simp only [spl, List.length_singleton]
 rw [List.set_eq_take_append_cons_drop, if_pos h]
 simp
theorem run_storeVar {w : World} {v : Value} {lv : List Value} (hv : v.cells = lv.toArray) (hs : Sz P t lv.length) {b off : Nat} {l : List Value} {e : TypeId} (hb : w.heap[b]? = some (row l e))
  (hlen : off + lv.length ≤ l.length) (h1 : lv.all (·.oneCell') = true) : (storeVar t ⟨b, off, none⟩ v).run P w = .ok () (w.setRow b (spl l off lv).toArray) := by
 have hr := run_storeCells_at (P := P) b off e lv 0 l.toArray w hb (by simpa using hlen) (fun u hu => List.all_eq_true.1 h1 u hu)
 simp [storeVar, run_sizeOf hs, hv, hr, spl]
theorem wl_store {b off : Nat} {v : Value} {lv l : List Value} {e : TypeId} (hg : gdv ops L g = some true) (hx : evo L x = some (.pointer (some ⟨b, off, none⟩))) (hy : evo L y = some v) (hv : v.cells = lv.toArray)
  (hs : Sz P t lv.length) (h1 : lv.all (·.oneCell') = true) (hu : Upd H b (row l e) (row (spl l off lv) e) H') (hlen : off + lv.length ≤ l.length)
  (h : Wl P ops Q M w0 n D rest L H') : Wl P ops Q M w0 n D (⟨none, .store t x y, oty, pos, after, g⟩ :: rest) L H :=
 Wl.act0 hg (fun a w hf hst => by
  have hb := hst.get hu.mem
  have hr := run_storeVar (w := w) hv hs hb hlen h1
  refine ⟨w.setRow b (spl l off lv).toArray, ?_, hst.upd hu ⟨rfl, rfl, rfl, by simp, fun k _ hk => setRow_other w b k _ (fun e => hk (by rw [e]))⟩ (setRow_heap w b _ _ e _ hb)⟩
  simp [execOp, hf.eval hx, hf.eval hy, Instr.storeAt, Instr.sureAddr, hr]) h
theorem wl_store1 {b off : Nat} {v : Value} {l : List Value} {e : TypeId} (hg : gdv ops L g = some true) (hx : evo L x = some (.pointer (some ⟨b, off, none⟩))) (hy : evo L y = some v) (h1 : v.oneCell' = true)
  (hs : Sz P t 1) (hu : Upd H b (row l e) (row (l.set off v) e) H') (hlen : off < l.length)
  (h : Wl P ops Q M w0 n D rest L H') : Wl P ops Q M w0 n D (⟨none, .store t x y, oty, pos, after, g⟩ :: rest) L H :=
 wl_store hg hx hy (lv := [v]) (by cases v <;> first | rfl | cases h1) hs (by simp [h1]) (by rw [spl_one hlen]; exact hu) hlen h
theorem wl_storeWhole {b : Nat} {lv l : List Value} {e : TypeId} (hg : gdv ops L g = some true) (hx : evo L x = some (.pointer (some ⟨b, 0, none⟩))) (hy : evo L y = some (.agg lv.toArray))
  (hs : Sz P t lv.length) (h1 : lv.all (·.oneCell') = true) (hu : Upd H b (row l e) (row lv e) H') (hlen : lv.length = l.length)
  (h : Wl P ops Q M w0 n D rest L H') : Wl P ops Q M w0 n D (⟨none, .store t x y, oty, pos, after, g⟩ :: rest) L H :=
 wl_store hg hx hy (lv := lv) rfl hs h1 (by rw [spl_whole hlen]; exact hu) Zf7 h
theorem run_callFunc {f : FuncId} {fn : Func} {c : Code} (hf : P.funcs[f]? = some fn) (hb : fn.body = some c) (hn : (fn.name == "runtime.NumGoroutine") = false) (args : Array Value) (w : World) :
  (callFunc f args).run P w = .ok (.enter f args) w := by
 have hn' : ¬ fn.name = "runtime.NumGoroutine" := by simpa using hn
 simp [callFunc, program, Sem.run, hf, hn', hb]
def Has (P : Program) (f : FuncId) : Prop := ∃ fn c, P.funcs[f]? = some fn ∧ fn.body = some c ∧ (fn.name == "runtime.NumGoroutine") = false
theorem run_call {a : Act} {w : World} {f : FuncId} {xs : List Operand} {vs : List Value} {fx : Operand} {cs : List Value} {ats : Array TypeId} (hf : Fz n L D a) (hh : Has P f) (hfx : evo L fx = some (.func (.func f) #[] cs.toArray))
  (hv : evos L xs = some vs) : (execOp a.eval ⟨dst, .call { callee := .value fx, args := xs.toArray, argTypes := ats }, oty, pos, after, g⟩).run P w = .ok (.enter f (vs ++ cs).toArray) w := by
 obtain ⟨fn, c, h1, h2, h3⟩ := hh
 have he := hf.evals hv
 simp only [execOp, resolve, hf.eval hfx, Deferred.ofValue, List.map_toArray, he]
 simp [invoke, run_callFunc h1 h2 h3]
def Gives {X : Type} (val : X → Value) (φ : X → Prop) (w : World) (ms news : X → List (Nat × Obj)) : Ending → World → Prop := fun e w' => ∃ x, φ x ∧ e = .returned (val x) ∧ Turn (ms x) (news x) w w'
def Give (v : Value) (w : World) : Ending → World → Prop := fun e w' => e = .returned v ∧ Ext w w'
theorem wl_call0 {f : FuncId} {xs : List Operand} {vs : List Value} {ats : Array TypeId} {v : Value} (hg : gdv ops L g = some true) (hd : Nat.blt d n = true)
  (hh : Has P f) (hv : evos L xs = some vs) (hc : ∀ w, St M w0 w H → Calls P f vs.toArray w (Give v w)) (h : Wl P ops Q M w0 n D rest ((d, v) :: L) H) :
  Wl P ops Q M w0 n D (⟨some d, .call { callee := .value (.func f), args := xs.toArray, argTypes := ats }, oty, pos, after, g⟩ :: rest) L H :=
 by
 intro a w hf hs
 unfold wpList
 rw [if_pos Zck]
 refine .inl ?_
 unfold Oper.wp
 rw [run_call hf hh (fx := .func f) (cs := []) rfl hv]
 simp only [List.append_nil]
 refine (hc w hs).mono fun e w' hR => ?_
 obtain ⟨rfl, hx⟩ := hR
 exact h _ _ (hf.put (dst := some d) Zct) (hs.ext hx)
theorem wl_callX {f : FuncId} {xs : List Operand} {vs : List Value} {ats : Array TypeId} {X : Type} {val : X → Value} {φ : X → Prop} {news : X → List (Nat × Obj)} (hg : gdv ops L g = some true) (hd : Nat.blt d n = true)
  (hh : Has P f) (hv : evos L xs = some vs) (hc : ∀ w, St M w0 w H → Calls P f vs.toArray w (Gives val φ w (fun _ => []) news)) (h : ∀ x, φ x → Wl P ops Q M w0 n D rest ((d, val x) :: L) (ents (news x) ++ H)) :
  Wl P ops Q M w0 n D (⟨some d, .call { callee := .value (.func f), args := xs.toArray, argTypes := ats }, oty, pos, after, g⟩ :: rest) L H :=
 by
 intro a w hf hs
 unfold wpList
 rw [if_pos Zck]
 refine .inl ?_
 unfold Oper.wp
 rw [run_call hf hh (fx := .func f) (cs := []) rfl hv]
 simp only [List.append_nil]
 refine (hc w hs).mono fun e w' hR => ?_
 obtain ⟨q, hq, rfl, hx⟩ := hR
 exact h q hq _ _ (hf.put (dst := some d) Zct) (hs.turn0 hx)
theorem run_loadWhole {w : World} (hu : Ag P t true) {l : List Value} (hs : Sz P t l.length) {b : Nat} {e : TypeId} (hb : w.heap[b]? = some (row l e)) : (loadVar t ⟨b, 0, none⟩).run P w = .ok (.agg l.toArray) w :=
 run_loadAgg hu hs rfl (fun j v hj => by rw [cell_row hb]; simpa using hj)
end
section
variable {P : Program} {fn : Func} {R : Ending → World → Prop} {M : List Nat} {w0 : World} {n : Nat} {L : List (Nat × Value)} {H : List Ent} {k : List Kt} {t : TypeId} {p q r : Tmp} {b : Nat} {l : List Value} {e : TypeId} {wr : Bool} {v u : Value}
theorem W.retc (hr : fn.results = #[.cell p t]) (hx : look L p = some (.pointer (some ⟨b, 0, none⟩))) (hu : Ag P t true) (hm : (⟨b, wr, row l e⟩ : Ent) ∈ H) (hs : Sz P t l.length)
  (h : ∀ w, St M w0 w H → R (.returned (.agg l.toArray)) w) : W P (bodyPost P fn R) M w0 n [] (.inl .ret :: k) L H :=
 W.ret fun a w hf hst => bodyPost_ret (v := .agg l.toArray) (by simp [results, hr, hf.has p _ hx, asAddr, run_loadWhole hu hs (hst.get hm)]) hf.defers (h w hst)
theorem W.retct (hr : fn.results = #[.cell p t, .tmp q]) (hx : look L p = some (.pointer (some ⟨b, 0, none⟩))) (hu : Ag P t true) (hm : (⟨b, wr, row l e⟩ : Ent) ∈ H) (hs : Sz P t l.length) (hv : look L q = some v)
  (h : ∀ w, St M w0 w H → R (.returned (.tuple #[.agg l.toArray, v])) w) : W P (bodyPost P fn R) M w0 n [] (.inl .ret :: k) L H :=
 W.ret fun a w hf hst => bodyPost_ret (v := .tuple #[.agg l.toArray, v]) (by simp [results, hr, hf.has p _ hx, hf.has q _ hv, asAddr, run_loadWhole hu hs (hst.get hm)]) hf.defers (h w hst)
end
theorem St.done {w0 w : World} {H : List Ent} (h : St [] w0 w H) : Ext w0 w := ⟨h.os, h.tape, h.output, h.size, h.frame, by simp, by simp, .nil⟩
theorem give_of_W {P : Program} {f : FuncId} {fn : Func} {c : Code} {vs : List Value} {w : World} {v : Value} {n : Nat} {H : List Ent}
  (hf : P.funcs[f]? = some fn) (hb : fn.body = some c) (hn : fn.ntmps = n) (hl : vs.length ≤ n) (hs : St [] w w H)
  (h : W P (bodyPost P fn fun e w' => e = .returned v ∧ Ext w w') [] w n [] [.inl c] (argL 0 vs) H) : Calls P f vs.toArray w (Give v w) :=
 calls_of_W hf hb hn hl hs h
end Go.PB
namespace Go.PB
open Go.RowKit
section
variable {P : Program} {Z : Exit → Act → World → Prop} {M : List Nat} {w0 : World} {n : Nat} {D : List Deferred} {L L' : List (Nat × Value)} {H H' : List Ent} {k : List Kt}
theorem W.rounds {c : Code} (i : Nat) (h : W P Z M w0 n D (.inr (.inr (.inl fun a w => Code.rounds P c (kpost P Z k) i a w)) :: k) L H) : W P Z M w0 n D (.inl (.loop c) :: k) L H :=
 fun a w hf hs => wp_loop_rounds i (h a w hf hs)
theorem W.round {c : Code} {i : Nat} (h : W P Z M w0 n D (.inl c :: .inr (.inr (.inl fun a w => Code.rounds P c (kpost P Z k) i a w)) :: k) L H) :
  W P Z M w0 n D (.inr (.inr (.inl fun a w => Code.rounds P c (kpost P Z k) (i + 1) a w)) :: k) L H := by
 intro a w hf hs
 show Code.rounds P c (kpost P Z k) (i + 1) a w
 exact h a w hf hs
end
end Go.PB
namespace Go.PB
open Go.RowKit
section
variable {P : Program} {Z : Exit → Act → World → Prop} {ops : Array Oper} {Q : Exit → Act → World → Prop} {M : List Nat} {w0 : World} {n : Nat} {D : List Deferred} {L L' : List (Nat × Value)} {H H' : List Ent} {rest : List Oper} {k : List Kt}
 {d : Tmp} {dst : Option Tmp} {op : Op} {oty t t' : TypeId} {pos : String} {after : Array Edge} {g : Option (Nat × Bool)} {x y z : Operand}
def Wq (P : Program) (ops : Array Oper) (Q : Exit → Act → World → Prop) (M : List Nat) (w0 : World) (n : Nat) (D : List Deferred) (l : List Oper) (L : List (Nat × Value)) (H : List Ent) : Prop :=
 ∀ a, Fz n L D a → wpQuiet P ops (fun w => St M w0 w H) (fun a' => ∀ w', St M w0 w' H → Q .normal a' w') l a
theorem W.regionQ {id : Nat} {l : List Oper} (hm : P.follows .mixedOrders = true) (hB : Region.lexB .any l.toArray = true) (h : Wq P l.toArray (kpost P Z k) M w0 n D l L H) : W P Z M w0 n D (.inl (.region id l.toArray true) :: k) L H :=
 fun a w hf hs => wp_region_quiet (C := fun w => St M w0 w H) hm hB hs.drew (by simpa using h a hf)
theorem Wq.nil (h : W P Z M w0 n D k L H) : Wq P ops (kpost P Z k) M w0 n D [] L H := fun a hf w hs => h a w hf hs
theorem Wq.skip (hg : gdv ops L g = some false) (hd : Nat.blt d n = true) (h : Wq P ops Q M w0 n D rest ((d, undef) :: L) H) : Wq P ops Q M w0 n D (⟨some d, op, oty, pos, after, g⟩ :: rest) L H := by
 intro a hf
 unfold wpQuiet
 rw [if_neg (by rw [wanted_of hf hg]; simp)]
 exact h _ (hf.put (dst := some d) Zct)
theorem Wq.ev {v : Value} (hg : gdv ops L g = some true) (hd : Nat.blt d n = true) (he : Ev P M w0 n D L H op oty v) (h : Wq P ops Q M w0 n D rest ((d, v) :: L) H) :
  Wq P ops Q M w0 n D (⟨some d, op, oty, pos, after, g⟩ :: rest) L H := by
 intro a hf
 unfold wpQuiet
 rw [if_pos Zck]
 refine ⟨v, fun w hs => ?_, h _ (hf.put (dst := some d) Zct)⟩
 unfold Oper.quietAt
 rw [he a w hf hs]
 exact ⟨rfl, rfl⟩
theorem Wq.call0 {f : FuncId} {xs : List Operand} {vs : List Value} {ats : Array TypeId} {v : Value} (hg : gdv ops L g = some true) (hd : Nat.blt d n = true)
  (hh : Has P f) (hv : evos L xs = some vs) (hc : ∀ w, St M w0 w H → Calls P f vs.toArray w (Give v w)) (h : Wq P ops Q M w0 n D rest ((d, v) :: L) H) :
  Wq P ops Q M w0 n D (⟨some d, .call { callee := .value (.func f), args := xs.toArray, argTypes := ats }, oty, pos, after, g⟩ :: rest) L H := by
 intro a hf
 unfold wpQuiet
 rw [if_pos Zck]
 refine ⟨v, fun w hs => ?_, h _ (hf.put (dst := some d) Zct)⟩
 unfold Oper.quietAt
 rw [run_call hf hh (fx := .func f) (cs := []) rfl hv]
 simp only [List.append_nil]
 exact ⟨rfl, (hc w hs).mono fun e w' hR => ⟨hR.1, hs.ext hR.2⟩⟩
theorem Wq.split {p : Prop} [Decidable p] {d : Nat} (hd : gslot ops g = some d) (hv : look L d = some (.bool (decide p)))
  (ht : p → Wq P ops Q M w0 n D (⟨dst, op, oty, pos, after, g⟩ :: rest) ((d, .bool true) :: L) H)
  (hf : ¬p → Wq P ops Q M w0 n D (⟨dst, op, oty, pos, after, g⟩ :: rest) ((d, .bool false) :: L) H) : Wq P ops Q M w0 n D (⟨dst, op, oty, pos, after, g⟩ :: rest) L H := by
 have _ := hd
 intro a hfz
 by_cases hp : p
 ·exact ht hp a (hfz.sub' Zd5)
 ·exact hf hp a (hfz.sub' Zd5)
theorem Wq.splitB {b : Bool} {d : Nat} (hd : gslot ops g = some d) (hv : look L d = some (.bool b))
  (ht : b = true → Wq P ops Q M w0 n D (⟨dst, op, oty, pos, after, g⟩ :: rest) ((d, .bool true) :: L) H)
  (hf : b = false → Wq P ops Q M w0 n D (⟨dst, op, oty, pos, after, g⟩ :: rest) ((d, .bool false) :: L) H) : Wq P ops Q M w0 n D (⟨dst, op, oty, pos, after, g⟩ :: rest) L H := by
 have _ := hd
 intro a hfz
 cases hb : b with
 | true => exact ht hb a (hfz.sub' Zew)
 | false => exact hf hb a (hfz.sub' Zew)
def eqC : Value → Value → Option Bool
 | .int _ a, .int _ b => some (decide (a = b))
 | .string a, .string b => some (decide (a.toList = b.toList))
 | .bool a, .bool b => some (decide (a = b))
 | _, _ => none
def flatF (P : Program) : Nat → List Field → List Nat → Prop
 | _, [], [] => True
 | i, f :: fs, k :: ks => f.name ≠ "_" ∧ f.offset = i ∧ (match k with | 0 => ∃ q, P.underlying f.type = some (.int q) | 1 => P.underlying f.type = some .string | _ => P.underlying f.type = some .bool) ∧ flatF P (i + 1) fs ks
 | _, _, _ => False
def Flat (P : Program) (t : TypeId) (ks : List Nat) : Prop := (∃ fs, P.underlying t = some (.struct fs) ∧ flatF P 0 fs.toList ks) ∧ P.stoodInHeld t = false ∧ P.eqGuardType P.depth t = false
def kindC : Nat → Value → Bool
 | 0, .int _ _ => true
 | 1, .string _ => true
 | 2, .bool _ => true
 | _, _ => false
def eqL : List Value → List Value → Bool
 | u :: us, v :: vs => (eqC u v).getD false && eqL us vs
 | _, _ => true
def sameK : Value → Value → Bool
 | .int k _, .int k' _ => decide (k = k')
 | _, _ => true
def ksOk : List Nat → List Value → List Value → Bool
 | [], [], [] => true
 | k :: ks, u :: us, v :: vs => kindC k u && kindC k v && sameK u v && ksOk ks us vs
 | _, _, _ => false
theorem run_eqFields {w : World} {dd : Nat} (xs ys : List Value) : ∀ (fs : List Field) (ks : List Nat) (i : Nat) (us vs : List Value), flatF P i fs ks → xs.drop i = us → ys.drop i = vs → ksOk ks us vs = true →
  (Op.eqFields (dd + 1) xs.toArray ys.toArray fs).run P w = .ok (eqL us vs) w
 | [], [], i, us, vs, _, _, _, h4 => by
  cases us <;> cases vs <;> simp [ksOk] at h4
  simp [Op.eqFields, eqL]
 | f :: fs, k :: ks, i, us, vs, h1, h2, h3, h4 => by
  obtain ⟨n1, n2, n3, n4⟩ := h1
  cases us with
  | nil => simp [ksOk] at h4
  | cons u us =>
  cases vs with
  | nil => simp [ksOk] at h4
  | cons v vs =>
  simp only [ksOk, Bool.and_eq_true] at h4
  obtain ⟨⟨⟨k1, k2⟩, k3⟩, k4⟩ := h4
  have hu : xs[i]? = some u := by have e := congrArg (·[0]?) h2; simpa using e
  have hv : ys[i]? = some v := by have e := congrArg (·[0]?) h3; simpa using e
  have hus : xs.drop (i + 1) = us := by rw [← List.drop_drop, h2]; rfl
  have hvs : ys.drop (i + 1) = vs := by rw [← List.drop_drop, h3]; rfl
  have ih := run_eqFields (w := w) (dd := dd) xs ys fs ks (i + 1) us vs n4 hus hvs k4
  have hag : Ag P f.type false := by
   cases k with
   | zero => obtain ⟨q, hq⟩ := n3; exact ⟨_, hq, rfl⟩
   | succ k => cases k with
    | zero => exact ⟨_, n3, rfl⟩
    | succ k => exact ⟨_, n3, rfl⟩
  have hpu : (part f.type xs.toArray f.offset).run P w = .ok u w := by simp [part, run_isAgg hag, n2, hu]
  have hpv : (part f.type ys.toArray f.offset).run P w = .ok v w := by simp [part, run_isAgg hag, n2, hv]
  have he : (Op.equalIn (dd + 1) f.type u v).run P w = .ok ((eqC u v).getD false) w := by
   cases k with
   | zero =>
    obtain ⟨q, hq⟩ := n3
    cases u <;> simp [kindC] at k1
    cases v <;> simp [kindC] at k2
    simp [sameK] at k3
    subst k3
    rename_i k a b
    rw [run_equalIn_int w dd f.type k q a b hq]
    simp [eqC]; rfl
   | succ k => cases k with
    | zero =>
     cases u <;> simp [kindC] at k1
     cases v <;> simp [kindC] at k2
     rename_i a b
     rw [run_equalIn_string w dd f.type a b n3]
     by_cases e : a.toList = b.toList <;> simp [eqC, e]
    | succ k =>
     cases k with
     | zero =>
      cases u <;> simp [kindC] at k1
      cases v <;> simp [kindC] at k2
      rename_i a b
      rw [run_equalIn_bool' w dd f.type a b n3]
      cases a <;> cases b <;> rfl
     | succ k => cases u <;> simp [kindC] at k1
  simp only [Op.eqFields, n1, ne_eq, not_false_eq_true, if_true, Sem.run_bind, hpu, hpv, he, Result.andThen_ok]
  cases hb : (eqC u v).getD false with
  | false => simp [eqL, hb]
  | true => simpa [eqL, hb] using ih
 | [], _ :: _, _, _, _, h, _, _, _ => h.elim
 | _ :: _, [], _, _, _, h, _, _, _ => h.elim
theorem run_eqFlat {w : World} {ks : List Nat} {us vs : List Value} (hf : Flat P t ks) (hk : ksOk ks us vs = true) : (Op.equalIn 10000 t (.agg us.toArray) (.agg vs.toArray)).run P w = .ok (eqL us vs) w := by
 obtain ⟨⟨fs, h1, h2⟩, h3, _⟩ := hf
 have hfo : P.fieldsOf t = fs := by simp [Program.fieldsOf, h1]
 rw [run_equalIn_struct w 9999 t _ _ (by rw [hfo]; exact h1) h3, hfo]
 exact run_eqFields (dd := 9998) us vs fs.toList ks 0 us vs h2 rfl rfl hk
theorem ev_eqFlat {ks : List Nat} {us vs : List Value} (hf' : Flat P t ks) (hx : evo L x = some (.agg us.toArray)) (hy : evo L y = some (.agg vs.toArray)) (hk : ksOk ks us vs = true) {b : Bool} (hb : eqL us vs = b) :
  Ev P M w0 n D L H (.binOp .eql t x y t') oty (.bool b) := fun a w hf _ _ _ _ _ => by
 have hr := run_eqFlat (w := w) hf' hk
 simp [execOp, hf.eval hx, hf.eval hy, run_eqGuard_agg w .eql t x y _ _ hf'.2.2, run_eql_struct, hr, hb]
theorem ev_eqFlatD {ks : List Nat} {us vs : List Value} {p : Prop} [Decidable p] (hf' : Flat P t ks) (hx : evo L x = some (.agg us.toArray)) (hy : evo L y = some (.agg vs.toArray)) (hk : ksOk ks us vs = true) (hb : eqL us vs = true ↔ p) :
  Ev P M w0 n D L H (.binOp .eql t x y t') oty (.bool (decide p)) :=
 ev_eqFlat hf' hx hy hk (by
  by_cases h : p
  ·simp [h, hb.2 h]
  ·simp [h, Bool.eq_false_iff.2 fun e => h (hb.1 e)])
theorem eqL_ii {k k' j j' : IntKind} {a b c d : Int} : eqL [.int k a, .int k' b] [.int j c, .int j' d] = true ↔ a = c ∧ b = d := by simp [eqL, eqC]
end
end Go.PB
namespace Go.PB
theorem ret_eq {v u : Value} {w w' : World} {H : List Ent} (hs : St [] w w' H) (h : v = u) : Ending.returned v = .returned u ∧ Ext w w' := ⟨by rw [h], hs.done⟩
theorem St.news {w0 w : World} {H : List Ent} {news : List (Nat × Obj)} (h : St [] w0 w H) (hs : SubH (ents news) H) : Turn [] news w0 w := by
 refine ⟨h.os, h.tape, h.output, h.size, fun k hk _ => h.frame k hk Zgh, by simp, fun p hp => ?_, ?_⟩
 ·have hm : (⟨p.1, true, p.2⟩ : Ent) ∈ H := List.Sublist.subset hs (List.mem_map.2 ⟨p, hp, rfl⟩)
  have := h.own _ hm
  exact ⟨(this.2 rfl).resolve_right Zgh, this.1⟩
 ·have := List.Pairwise.sublist hs h.apart
  exact (List.pairwise_map.1 this).imp fun hne e => by have := (hne e).1; simp at this
theorem ret_new {X : Type} {val : X → Value} {φ : X → Prop} {w w' : World} {news : X → List (Nat × Obj)} {H : List Ent} {v : Value} (hs : St [] w w' H) (x : X) (hφ : φ x) (h : v = val x) (hn : SubH (ents (news x)) H) :
  Gives val φ w (fun _ => []) news (.returned v) w' := ⟨x, hφ, by rw [h], hs.news hn⟩
theorem St.read {w : World} {g : Nat} {o : Obj} (h : w.heap[g]? = some o) (M : List Nat) : St M w w [⟨g, false, o⟩] :=
 ⟨rfl, rfl, rfl, Nat.le_refl _, fun _ _ _ => rfl, by simp [h], by simp⟩
end Go.PB
namespace Go.PB
theorem Wl.chk {P : Program} {ops : Array Oper} {Q : Exit → Act → World → Prop} {M : List Nat} {w0 : World} {n : Nat} {D : List Deferred} {L : List (Nat × Value)} {H : List Ent} {rest : List Oper} {dst : Option Tmp} {op : Op} {oty : TypeId} {pos : String} {after : Array Edge} {g : Option (Nat × Bool)}
  (_ : gdv ops L g = some true) (h : False) : Wl P ops Q M w0 n D (⟨dst, op, oty, pos, after, g⟩ :: rest) L H := h.elim
theorem Wq.chk {P : Program} {ops : Array Oper} {Q : Exit → Act → World → Prop} {M : List Nat} {w0 : World} {n : Nat} {D : List Deferred} {L : List (Nat × Value)} {H : List Ent} {rest : List Oper} {dst : Option Tmp} {op : Op} {oty : TypeId} {pos : String} {after : Array Edge} {g : Option (Nat × Bool)}
  (_ : gdv ops L g = some true) (h : False) : Wq P ops Q M w0 n D (⟨dst, op, oty, pos, after, g⟩ :: rest) L H := h.elim
end Go.PB
namespace Go.PB
section
variable {P : Program} {M : List Nat} {w0 : World} {n : Nat} {D : List Deferred} {L : List (Nat × Value)} {H : List Ent} {oty t t' : TypeId} {x y : Operand} {l m : List UInt8}
theorem ev_eqsT (hx : evo L x = some (.string ⟨l.toArray⟩)) (hy : evo L y = some (.string ⟨m.toArray⟩)) (h : l = m) : Ev P M w0 n D L H (.binOp .eql t x y t') oty (.bool true) := (ev_eqs hx hy).to (by simp [h])
theorem ev_eqsF (hx : evo L x = some (.string ⟨l.toArray⟩)) (hy : evo L y = some (.string ⟨m.toArray⟩)) (h : ¬l = m) : Ev P M w0 n D L H (.binOp .eql t x y t') oty (.bool false) := (ev_eqs hx hy).to (by simp [h])
theorem ev_nesT (hx : evo L x = some (.string ⟨l.toArray⟩)) (hy : evo L y = some (.string ⟨m.toArray⟩)) (h : ¬l = m) : Ev P M w0 n D L H (.binOp .neq t x y t') oty (.bool true) := (ev_nes hx hy).to (by simp [h])
theorem ev_nesF (hx : evo L x = some (.string ⟨l.toArray⟩)) (hy : evo L y = some (.string ⟨m.toArray⟩)) (h : l = m) : Ev P M w0 n D L H (.binOp .neq t x y t') oty (.bool false) := (ev_nes hx hy).to (by simp [h])
end
end Go.PB
namespace Go.PB
open Go.RowKit
section
variable {P : Program} {Z : Exit → Act → World → Prop} {ops : Array Oper} {Q : Exit → Act → World → Prop} {M : List Nat} {w0 : World} {n : Nat} {D : List Deferred} {L L' : List (Nat × Value)} {H H' H0 : List Ent} {rest : List Oper} {k : List Kt}
 {d : Tmp} {dst : Option Tmp} {op : Op} {oty t t' : TypeId} {pos : String} {after : Array Edge} {g : Option (Nat × Bool)} {x y z : Operand} {fuel : Nat} {listed : Array Bool}
def Qd (Q : Exit → Act → World → Prop) : Exit → Act → World → Prop := fun e a w => e = .normal ∧ Q .normal a w
def Wd (P : Program) (ops : Array Oper) (Q : Exit → Act → World → Prop) (H0 : List Ent) (M : List Nat) (w0 : World) (n : Nat) (D : List Deferred) (fuel : Nat) (listed : Array Bool) (_ : Nat) (L : List (Nat × Value)) (H : List Ent) : Prop :=
 ∀ a w, Fz n L D a → St M w0 w H → wpAnyH P .any ops (Qd Q) (fun w => St M w0 w H0) fuel listed a w
def Qk (P : Program) (ops : Array Oper) (Q : Exit → Act → World → Prop) (H0 : List Ent) (M : List Nat) (w0 : World) (fuel : Nat) (listed : Array Bool) : Exit → Act → World → Prop :=
 fun e a w => e = .normal ∧ St M w0 w H0 ∧ wpAnyH P .any ops (Qd Q) (fun w => St M w0 w H0) fuel listed a w
theorem W.regionD {id : Nat} {l : List Oper} {H0 : List Ent} (hm : P.follows .mixedOrders = true) (_ : SubH H0 H)
  (h : Wd P l.toArray (kpost P Z k) H0 M w0 n D l.length (Array.replicate l.length false) 0 L H) : W P Z M w0 n D (.inl (.region id l.toArray true) :: k) L H := by
 intro a w hf hs
 refine Code.wp_mono (Q := Qd (kpost P Z k)) (fun e a2 w2 hq => ?_) (wp_region_held (S := fun w => St M w0 w H0) hm (by simpa using h a _ hf hs.drew))
 obtain ⟨rfl, hq⟩ := hq
 exact hq
theorem Wd.done {i : Nat} (hr : (Region.ready .any ops listed).isEmpty = true) (h : W P Z M w0 n D k L H) : Wd P ops (kpost P Z k) H0 M w0 n D fuel listed i L H :=
 fun a w hf hs => wpAnyH_done (List.isEmpty_iff.1 hr) ⟨rfl, h a w hf hs⟩ fuel
theorem Wd.take {v : Value} {i : Nat} (hr : (Region.ready .any ops listed).contains i = true) (hi : ops[i]? = some ⟨some d, op, oty, pos, after, g⟩) (hs : Region.noSelect ops = true) (hf : Region.free .any ops listed i = true)
  (hg : gdv ops L g = some true) (hd : Nat.blt d n = true) (he : Ev P M w0 n D L H0 op oty v) (hH : SubH H0 H)
  (h : Wd P ops Q H0 M w0 n D fuel (listed.setIfInBounds i true) (i + 1) ((d, v) :: L) H) : Wd P ops Q H0 M w0 n D (fuel + 1) listed i L H :=
 fun a w hfz hst => wpAnyH_take hi hs hf hr (fun _ _ _ hq => by cases hq.1) (.inl ⟨wanted_of hfz hg, fun w' hw' => he a w' hfz hw' _ _ _ _⟩) (hst.sub hH)
  (h _ w (hfz.put (dst := some d) Zct) hst)
theorem Wd.skip {i : Nat} (hr : (Region.ready .any ops listed).contains i = true) (hi : ops[i]? = some ⟨some d, op, oty, pos, after, g⟩) (hs : Region.noSelect ops = true) (hf : Region.free .any ops listed i = true)
  (hg : gdv ops L g = some false) (hd : Nat.blt d n = true) (hH : SubH H0 H)
  (h : Wd P ops Q H0 M w0 n D fuel (listed.setIfInBounds i true) (i + 1) ((d, undef) :: L) H) : Wd P ops Q H0 M w0 n D (fuel + 1) listed i L H :=
 fun a w hfz hst => wpAnyH_take (v := undef) hi hs hf hr (fun _ _ _ hq => by cases hq.1) (.inr ⟨wanted_of hfz hg, rfl⟩) (hst.sub hH)
  (h _ w (hfz.put (dst := some d) Zct) hst)
theorem upon_monoQ {o : Oper} {a : Act} {K : Act → World → Prop} {Q Q' : Exit → Act → World → Prop} (hp : ∀ c a w, Q (.panic c) a w → Q' (.panic c) a w) (ho : LetsOut Q → LetsOut Q') {r : Result Next} (h : o.upon P a K Q r) : o.upon P a K Q' r := by
 cases r with
 | ok nx w' =>
  cases nx with
  | value v => exact h
  | skip => exact h
  | defer d => exact h
  | enter f args =>
   exact Calls.mono h fun e w'' he => by
    cases e with
    | returned u => exact he
    | panicked c => exact hp _ _ _ he
    | outgrown => exact ho he
  | row row args => exact h
  | _ => exact h
 | halt x w' =>
  cases x with
  | panic u => exact hp _ _ _ h
  | _ => exact h
def AllO (p : Nat → Oper → Prop) : Nat → List Oper → Prop
 | _, [] => True
 | i, o :: l => p i o ∧ AllO p (i + 1) l
theorem AllO.cons {p : Nat → Oper → Prop} {i : Nat} {o : Oper} {l : List Oper} (h : p i o) (h' : AllO p (i + 1) l) : AllO p i (o :: l) := ⟨h, h'⟩
theorem AllO.nil {p : Nat → Oper → Prop} {i : Nat} : AllO p i [] := True.intro
theorem AllO.get {p : Nat → Oper → Prop} : ∀ {l : List Oper} {i : Nat}, AllO p i l → ∀ j o, l[j]? = some o → p (i + j) o
 | [], _, _, j, o, h => by simp at h
 | _ :: l, i, h, 0, o, e => by simp at e; subst e; exact h.1
 | _ :: l, i, h, j + 1, o, e => by have := AllO.get h.2 j o (by simpa using e); rwa [Nat.add_right_comm] at this
theorem Wd.next {i : Nat} (h : Wd P ops Q H0 M w0 n D fuel listed (i + 1) L H) : Wd P ops Q H0 M w0 n D fuel listed i L H := h
theorem Wd.not {i : Nat} (_ : (Region.ready .any ops listed).contains i = false) (h : Wd P ops Q H0 M w0 n D fuel listed (i + 1) L H) : Wd P ops Q H0 M w0 n D fuel listed i L H := h
theorem Wd.all {l : List Oper} {j : Nat} (_ : Nat.ble l.length j = true) (hne : (Region.ready .any l.toArray listed).isEmpty = false)
  (h : AllO (fun i o => (Region.ready .any l.toArray listed).contains i = false ∨ Wl P l.toArray (Qk P l.toArray Q H0 M w0 fuel (listed.setIfInBounds i true)) M w0 n D [o] L H) 0 l) : Wd P l.toArray Q H0 M w0 n D (fuel + 1) listed j L H := by
 intro a w hf hs
 refine wpAnyH_all rfl Zfk fun i hi => ?_
 have hex : ∃ o, l[i]? = some o := by
  simp only [Region.ready, List.mem_filter, List.mem_range, List.size_toArray] at hi
  exact ⟨_, List.getElem?_eq_getElem hi.1⟩
 obtain ⟨o, ho'⟩ := hex
 have ho : l.toArray[i]? = some o := by simpa using ho'
 rcases h.get i o ho' with hw | hw
 ·rw [Nat.zero_add] at hw
  rw [show (Region.ready .any l.toArray listed).contains i = true by simpa using hi] at hw
  cases hw
 rw [Nat.zero_add] at hw
 have hw := hw a w hf hs
 unfold wpOp
 simp only [ho]
 unfold wpList at hw
 have hK : (wpList P l.toArray (Qk P l.toArray Q H0 M w0 fuel (listed.setIfInBounds i true)) []) = fun a' w' => (.normal : Exit) = .normal ∧ St M w0 w' H0 ∧ wpAnyH P .any l.toArray (Qd Q) (fun w => St M w0 w H0) fuel (listed.setIfInBounds i true) a' w' := rfl
 have hlet : ∀ {R : Prop}, LetsOut (Qk P l.toArray Q H0 M w0 fuel (listed.setIfInBounds i true)) → R := by
  rintro R ⟨a, w, h, _⟩; cases h
 split
 ·rename_i hwt
  rw [if_pos hwt] at hw
  rcases hw with hw | hw
  ·refine .inl (Oper.wp_mono (fun a' w' hk => ?_) (?_ : o.wp P a w (wpList P l.toArray (Qk P l.toArray Q H0 M w0 fuel (listed.setIfInBounds i true)) []) (Qd Q)))
   ·rw [hK] at hk; exact ⟨hk.2.1, hk.2.2⟩
   ·exact upon_monoQ (fun c a w hq => by cases hq.1) (fun h => hlet h) hw
  ·exact hlet hw.2
 ·rename_i hwt
  rw [if_neg hwt] at hw
  rw [hK] at hw
  exact ⟨hw.2.1, hw.2.2⟩
theorem Wl.nilD (hH : SubH H0 H) (h : Wd P ops Q H0 M w0 n D fuel listed 0 L H) : Wl P ops (Qk P ops Q H0 M w0 fuel listed) M w0 n D [] L H :=
 fun a w hf hs => ⟨rfl, hs.sub hH, h a w hf hs⟩
theorem Wd.split {p : Prop} [Decidable p] {i d : Nat} (hr : (Region.ready .any ops listed).contains i = true) (hi : ops[i]? = some ⟨dst, op, oty, pos, after, g⟩) (hd : gslot ops g = some d) (hv : look L d = some (.bool (decide p)))
  (ht : p → Wd P ops Q H0 M w0 n D fuel listed i ((d, .bool true) :: L) H)
  (hf : ¬p → Wd P ops Q H0 M w0 n D fuel listed i ((d, .bool false) :: L) H) : Wd P ops Q H0 M w0 n D fuel listed i L H := by
 have _ := hd
 have _ := hi
 have _ := hr
 intro a w hfz hs
 by_cases hp : p
 ·exact ht hp a w (hfz.sub' Zd5) hs
 ·exact hf hp a w (hfz.sub' Zd5) hs
theorem Wd.splitB {b : Bool} {i d : Nat} (hr : (Region.ready .any ops listed).contains i = true) (hi : ops[i]? = some ⟨dst, op, oty, pos, after, g⟩) (hd : gslot ops g = some d) (hv : look L d = some (.bool b))
  (ht : b = true → Wd P ops Q H0 M w0 n D fuel listed i ((d, .bool true) :: L) H)
  (hf : b = false → Wd P ops Q H0 M w0 n D fuel listed i ((d, .bool false) :: L) H) : Wd P ops Q H0 M w0 n D fuel listed i L H := by
 have _ := hd
 have _ := hi
 have _ := hr
 intro a w hfz hs
 cases hb : b with
 | true => exact ht hb a w (hfz.sub' Zew) hs
 | false => exact hf hb a w (hfz.sub' Zew) hs
end
end Go.PB
namespace Go.PB
open Go.RowKit
section
variable {P : Program} {ops : Array Oper} {Q : Exit → Act → World → Prop} {M : List Nat} {w0 : World} {n : Nat} {D : List Deferred} {L L' : List (Nat × Value)} {H H' : List Ent} {rest : List Oper}
 {d : Tmp} {dst : Option Tmp} {oty t t' : TypeId} {pos : String} {after : Array Edge} {g : Option (Nat × Bool)} {x y z : Operand}
theorem take_succ_all {α : Type} {p : α → Prop} {l : List α} {k : Nat} (hk : k < l.length) (h : ∀ t ∈ l.take k, p t) (h1 : p l[k]) : ∀ t ∈ l.take (k + 1), p t := fun t ht => by
 rw [List.take_succ_eq_append_getElem hk] at ht
 rcases List.mem_append.1 ht with ht | ht
 ·exact h t ht
 ·rw [List.mem_singleton.1 ht]; exact h1
def IxB (P : Program) (f : FuncId) : Prop := ∃ fn, P.funcs[f]? = some fn ∧ (fn.name == "runtime.NumGoroutine") = false ∧ fn.body.isNone = true ∧ Extern.findNext fn = none ∧ Extern.find fn = some Extern.BytealgIndexByte.indexByte
theorem ev_indexByte {f : FuncId} {l : List UInt8} {c : Int} {ats : Array TypeId} (hf' : IxB P f) (hx : evo L x = some (.string ⟨l.toArray⟩)) (hy : evo L y = some (.int .u8 c)) :
  Ev P M w0 n D L H (.call { callee := .value (.func f), args := #[x, y], argTypes := ats }) oty (.int .i64 (Lib.indexByte l c.toNat.toUInt8)) := fun a w hf _ dst pos after g => by
 obtain ⟨fn, h1, h2, h3, h4, h5⟩ := hf'
 have hr := run_callFunc_extern (P := P) h1 h2 h3 h4 h5 #[.string ⟨l.toArray⟩, .int .u8 c] w
 rw [Lib.run_indexByteString] at hr
 simp only [execOp, resolve, Act.eval, Deferred.ofValue]
 have e1 := hf.eval hx
 have e2 := hf.eval hy
 simp [invoke, e1, e2, hr]
def CtB (P : Program) (f : FuncId) : Prop := ∃ fn, P.funcs[f]? = some fn ∧ (fn.name == "runtime.NumGoroutine") = false ∧ fn.body.isNone = true ∧ Extern.findNext fn = none ∧ Extern.find fn = some Extern.BytealgCount.count
theorem ev_countByte {f : FuncId} {l : List UInt8} {c : Int} {ats : Array TypeId} (hf' : CtB P f) (hx : evo L x = some (.string ⟨l.toArray⟩)) (hy : evo L y = some (.int .u8 c)) :
  Ev P M w0 n D L H (.call { callee := .value (.func f), args := #[x, y], argTypes := ats }) oty (.int .i64 (Lib.countByte l c.toNat.toUInt8)) := fun a w hf _ dst pos after g => by
 obtain ⟨fn, h1, h2, h3, h4, h5⟩ := hf'
 have hr := run_callFunc_extern (P := P) h1 h2 h3 h4 h5 #[.string ⟨l.toArray⟩, .int .u8 c] w
 rw [Lib.run_countString] at hr
 simp only [execOp, resolve, Act.eval, Deferred.ofValue]
 have e1 := hf.eval hx
 have e2 := hf.eval hy
 simp [invoke, e1, e2, hr]
theorem ev_slice_l {e : TypeId} {sz b off m c : Nat} {lo : Operand} {k : IntKind} {i : Int} (ht : Sl P t e) (hs : Sz P e sz) (hx : evo L x = some (.slice (some ⟨b, off, none⟩) m c)) (hlo : evo L lo = some (.int k i)) (hb : 0 ≤ i ∧ i ≤ m) (hc : i < c) :
  Ev P M w0 n D L H (.slice t x (some lo) none none) oty (.slice (some ⟨b, off + i.toNat * sz, none⟩) (m - i.toNat) (c - i.toNat)) := fun a w hf _ dst pos after g => by
 have ht' : P.underlying t = some (.slice e) := ht
 have hne : ¬ c = i.toNat := by omega
 simp [execOp, hf.eval hx, hf.eval hlo, Instr.sliceAt, Instr.slice, Instr.sliceBounds, Instr.sliceBound, asIntOf, run_underlying ht', hb.1, hb.2, run_sizeOf hs, add_lit, hne]
theorem Wl.sub {l : List Oper} (hL : SubL L' L) (hH : SubH H' H) (h : Wl P ops Q M w0 n D l L' H') : Wl P ops Q M w0 n D l L H := fun a w hf hs => h a w (hf.sub hL) (hs.sub hH)
end
theorem SubL.refl {L : List (Nat × Value)} : SubL L L := fun _ _ h => h
theorem SubL.fresh {L L' : List (Nat × Value)} {j : Nat} {v : Value} (h : look L j = none) (hs : SubL L L') : SubL L ((j, v) :: L') := by
 intro i u hi
 simp only [look]
 by_cases e : i = j
 ·subst e; rw [h] at hi; cases hi
 ·rw [beq_ne e]; exact hs i u hi
section
variable {P : Program} {Z : Exit → Act → World → Prop} {M : List Nat} {w0 : World} {n : Nat} {D : List Deferred} {L L' : List (Nat × Value)} {H H' : List Ent} {k : List Kt}
def fb (L : List (Nat × Value)) (H : List Ent) (M : List Nat) (w0 : World) (n : Nat) (D : List Deferred) (slot : Nat) (p : Prop) [Decidable p] : Act → World → Prop :=
 fun a w => ∃ x : Bool, x = decide p ∧ Fz n ((slot, .bool x) :: L) D a ∧ St M w0 w H
end
end Go.PB
namespace Go.PB
open Go.RowKit
section
variable {P : Program} {ops : Array Oper} {Q : Exit → Act → World → Prop} {M : List Nat} {w0 : World} {n : Nat} {D : List Deferred} {L L' : List (Nat × Value)} {H H' : List Ent} {rest rest' : List Oper}
 {d : Tmp} {dst : Option Tmp} {oty t t' : TypeId} {pos : String} {after : Array Edge} {g : Option (Nat × Bool)} {x y z : Operand}
theorem run_bin_bool {P : Program} {w : World} {op : BinOp} {t t' : TypeId} {a : Act} {p q : Bool} {v : Value} {dst : Option Tmp} {pos : String} {after : Array Edge} {g : Option (Nat × Bool)}
  (hx : a.eval x = .bool p) (hy : a.eval y = .bool q) (hr : (binOp op t (.bool p) (.bool q)).run P w = .ok v w) :
  (execOp a.eval ⟨dst, .binOp op t x y t', oty, pos, after, g⟩).run P w = .ok (.value v) w := by
 have hg : (eqGuard op t x y (.bool p) (.bool q)).run P w = .ok () w := by
  unfold eqGuard
  cases op <;> simp
 simp [execOp, hx, hy, hg, hr]
theorem ev_neb {p q : Bool} (ht : P.underlying t = some .bool) (hx : evo L x = some (.bool p)) (hy : evo L y = some (.bool q)) : Ev P M w0 n D L H (.binOp .neq t x y t') oty (.bool (decide (¬p = q))) :=
 fun a w hf _ _ _ _ _ => run_bin_bool (hf.eval hx) (hf.eval hy) (by rw [run_neq_bool (h := ht)]; cases p <;> cases q <;> rfl)
theorem ev_neb_self {p : Bool} (ht : P.underlying t = some .bool) (hx : evo L x = some (.bool p)) (hy : evo L y = some (.bool p)) : Ev P M w0 n D L H (.binOp .neq t x y t') oty (.bool false) := (ev_neb ht hx hy).to Zgh
end
end Go.PB
namespace Go.PB
open Go.RowKit
section
variable {P : Program} {Z : Exit → Act → World → Prop} {M : List Nat} {w0 : World} {n : Nat} {D : List Deferred} {L L' : List (Nat × Value)} {H H' : List Ent} {k : List Kt}
def kgo (l : Nat) : List Kt → Option (Act → World → Prop)
 | [] => none
 | .inl _ :: k => kgo l k
 | .inr (.inl _) :: k => kgo l k
 | .inr (.inr (.inl _)) :: k => kgo l k
 | .inr (.inr (.inr lJ)) :: _ => bif Nat.beq lJ.1 l then some lJ.2 else none
theorem kpost_goto {a : Act} {w : World} {l : Nat} {J : Act → World → Prop} : ∀ {k : List Kt}, kgo l k = some J → J a w → kpost P Z k (.goto l) a w
 | [], h, _ => by simp [kgo] at h
 | .inl _ :: k, h, hq => kpost_goto (k := k) h hq
 | .inr (.inl _) :: k, h, hq => kpost_goto (k := k) h hq
 | .inr (.inr (.inl _)) :: k, h, hq => kpost_goto (k := k) h hq
 | .inr (.inr (.inr lJ)) :: k, h, hq => by
  simp only [kgo] at h
  by_cases e : lJ.1 = l
  ·subst e
   simp at h
   subst h
   exact ⟨rfl, hq⟩
  ·rw [beq_ne e] at h
   cases h
theorem W.goto {l : Nat} {J : Act → World → Prop} (hk : kgo l k = some J) (h : ∀ a w, Fz n L D a → St M w0 w H → J a w) : W P Z M w0 n D (.inl (.goto l) :: k) L H :=
 fun a w hf hs => wp_goto (kpost_goto hk (h a w hf hs))
theorem W.label {l : Nat} (h : W P Z M w0 n D k L H) : W P Z M w0 n D (.inl (.label l) :: k) L H := fun a w hf hs => wp_label (h a w hf hs)
theorem W.scp {l : Nat} {J : Act → World → Prop} (h : W P Z M w0 n D k L H) : W P Z M w0 n D (.inr (.inr (.inr (l, J))) :: k) L H := fun a w hf hs => h a w hf hs
theorem W.scope0 {c : Code} (h : W P Z M w0 n D (.inl c :: .inr (.inr (.inr (0, fun _ _ => False))) :: k) L H) : W P Z M w0 n D (.inl (.scope c) :: k) L H :=
 fun a w hf hs => wp_scope_straight (Code.wp_mono (fun e a2 w2 hq => by
  cases e with
  | goto l => exact hq.2.elim
  | normal => exact hq
  | exit id => exact hq
  | ret => exact hq
  | panic ch => exact hq
  | outgrown => exact hq) (h a w hf hs))
def Jm {X : Type} (Lx : X → List (Nat × Value)) (Hx : X → List Ent) (φ : X → Prop) (μ : X → Nat) (m : Option X) (M : List Nat) (w0 : World) (n : Nat) (D : List Deferred) : Act → World → Prop :=
 fun a w => ∃ y, φ y ∧ (∀ x, m = some x → μ y < μ x) ∧ Fz n (Lx y) D a ∧ St M w0 w (Hx y)
theorem W.goto' {l : Nat} {X : Type} {Lx : X → List (Nat × Value)} {Hx : X → List Ent} {φ : X → Prop} {μ : X → Nat} {x : X} (hk : kgo l k = some (Jm Lx Hx φ μ (some x) M w0 n D)) (y : X) (h1 : φ y) (h2 : μ y < μ x) (hL : SubL (Lx y) L) (hH : SubH (Hx y) H) :
  W P Z M w0 n D (.inl (.goto l) :: k) L H :=
 W.goto hk fun _ _ hf hs => ⟨y, h1, fun _ e => by cases e; exact h2, hf.sub hL, hs.sub hH⟩
theorem kpost_jump_mono {l : Nat} {J J' : Act → World → Prop} (hJ : ∀ a w, J a w → J' a w) {e : Exit} {a : Act} {w : World} (h : kpost P Z (.inr (.inr (.inr (l, J))) :: k) e a w) : kpost P Z (.inr (.inr (.inr (l, J'))) :: k) e a w := by
 cases e with
 | goto l' => exact ⟨h.1, hJ _ _ h.2⟩
 | normal => exact h
 | exit id => exact h
 | ret => exact h
 | panic ch => exact h
 | outgrown => exact h
theorem W.again0 {l : Nat} {c : Code} {X : Type} (Lx : X → List (Nat × Value)) (Hx : X → List Ent) (φ : X → Prop) (μ : X → Nat) (x0 : X) (h0 : φ x0) (hL : SubL (Lx x0) L) (hH : SubH (Hx x0) H)
  (round : ∀ x, φ x → W P Z M w0 n D (.inl c :: .inr (.inr (.inr (l, Jm Lx Hx φ μ (some x) M w0 n D))) :: k) (Lx x) (Hx x)) :
  W P Z M w0 n D (.inl (.scope (.seq (.label l) c)) :: k) L H := by
 intro a w hf hs
 show (Code.scope (.seq (.label l) c)).wp P (kpost P Z k) a w
 let Q : Act → World → Prop := Jm Lx Hx φ μ none M w0 n D
 let ν : Act → World → Nat := fun a' w' => Classical.epsilon (fun i => (∃ y, φ y ∧ μ y = i ∧ Fz n (Lx y) D a' ∧ St M w0 w' (Hx y)) ∧ ∀ y, φ y → Fz n (Lx y) D a' → St M w0 w' (Hx y) → i ≤ μ y)
 have hν : ∀ a' w', Q a' w' → (∃ y, φ y ∧ μ y = ν a' w' ∧ Fz n (Lx y) D a' ∧ St M w0 w' (Hx y)) ∧ ∀ y, φ y → Fz n (Lx y) D a' → St M w0 w' (Hx y) → ν a' w' ≤ μ y := by
  intro a' w' hI
  have hleast : ∃ i, (∃ y, φ y ∧ μ y = i ∧ Fz n (Lx y) D a' ∧ St M w0 w' (Hx y)) ∧ ∀ y, φ y → Fz n (Lx y) D a' → St M w0 w' (Hx y) → i ≤ μ y := by
   obtain ⟨y, h1, _, h3, h4⟩ := hI
   have hex : ∀ i, (∃ y, φ y ∧ μ y = i ∧ Fz n (Lx y) D a' ∧ St M w0 w' (Hx y)) → ∃ i, (∃ y, φ y ∧ μ y = i ∧ Fz n (Lx y) D a' ∧ St M w0 w' (Hx y)) ∧ ∀ y, φ y → Fz n (Lx y) D a' → St M w0 w' (Hx y) → i ≤ μ y := by
    intro i
    induction i using Nat.strongRecOn with
    | _ i ih =>
     intro hi
     by_cases hall : ∀ y, φ y → Fz n (Lx y) D a' → St M w0 w' (Hx y) → i ≤ μ y
     ·exact ⟨i, hi, hall⟩
     ·have : ∃ y, φ y ∧ Fz n (Lx y) D a' ∧ St M w0 w' (Hx y) ∧ μ y < i := by
       refine Classical.byContradiction fun hno => hall fun y a1 a2 a3 => ?_
       exact Nat.le_of_not_lt fun hlt => hno ⟨y, a1, a2, a3, hlt⟩
      obtain ⟨y, a1, a2, a3, hlt⟩ := this
      exact ih (μ y) hlt ⟨y, a1, rfl, a2, a3⟩
   exact hex _ ⟨y, h1, rfl, h3, h4⟩
  exact Classical.epsilon_spec hleast
 refine wp_scope_jumps (rest := .seq .skip c) l Q ν (by simp [findLabel]) ?_ ?_
 ·refine wp_seq (wp_label ?_)
  have hr := round x0 h0 a w (hf.sub hL) (hs.sub hH)
  refine Code.wp_mono (fun e a2 w2 hq => ?_) hr
  exact kpost_jump_mono (J' := Q) (fun _ _ ⟨y, h1, _, h3, h4⟩ => ⟨y, h1, fun _ e => (by cases e), h3, h4⟩) hq
 ·intro a' w' hI
  refine wp_seq (wp_skip ?_)
  obtain ⟨⟨y, h1, h2, h3, h4⟩, _⟩ := hν a' w' hI
  have hr := round y h1 a' w' h3 h4
  refine Code.wp_mono (fun e a2 w2 hq => ?_) hr
  refine kpost_jump_mono (J' := fun a'' w'' => Q a'' w'' ∧ ν a'' w'' < ν a' w') (fun a3 w3 ⟨z, z1, z2, z3, z4⟩ => ?_) hq
  have hQ : Q a3 w3 := ⟨z, z1, fun _ e => (by cases e), z3, z4⟩
  have := (hν a3 w3 hQ).2 z z1 z3 z4
  have h5 := z2 _ rfl
  exact ⟨hQ, by omega⟩
end
section
variable {P : Program} {ops : Array Oper} {Q : Exit → Act → World → Prop} {M : List Nat} {w0 : World} {n : Nat} {D : List Deferred} {L L' : List (Nat × Value)} {H : List Ent} {rest : List Oper}
 {d : Tmp} {dst : Option Tmp} {oty t t' : TypeId} {pos : String} {after : Array Edge} {g : Option (Nat × Bool)} {x y z : Operand}
def GiveT (v : Value) (b : Nat) (o : Obj) (w : World) : Ending → World → Prop := fun e w' => e = .returned v ∧ Turn [(b, o)] [] w w'
theorem wl_callT0 {f : FuncId} {xs : List Operand} {vs : List Value} {ats : Array TypeId} {v : Value} {b : Nat} {o o' : Obj} {H' : List Ent} (hg : gdv ops L g = some true) (hd : Nat.blt d n = true)
  (hh : Has P f) (hv : evos L xs = some vs) (hc : ∀ w, St M w0 w H → Calls P f vs.toArray w (GiveT v b o' w)) (hu : Upd H b o o' H') (h : Wl P ops Q M w0 n D rest ((d, v) :: L) H') :
  Wl P ops Q M w0 n D (⟨some d, .call { callee := .value (.func f), args := xs.toArray, argTypes := ats }, oty, pos, after, g⟩ :: rest) L H := by
 intro a w hf hs
 unfold wpList
 rw [if_pos Zck]
 refine .inl ?_
 unfold Oper.wp
 rw [run_call hf hh (fx := .func f) (cs := []) rfl hv]
 simp only [List.append_nil]
 refine (hc w hs).mono fun e w' hR => ?_
 obtain ⟨rfl, hx⟩ := hR
 exact h _ _ (hf.put (dst := some d) Zct) (by simpa [ents] using hs.turn1 hu hx)
theorem St.turnable {w : World} {b : Nat} {o : Obj} (h : w.heap[b]? = some o) : St [b] w w [⟨b, true, o⟩] :=
 ⟨rfl, rfl, rfl, Nat.le_refl _, fun _ _ _ => rfl, by simp [h], by simp⟩
theorem St.turned {w0 w : World} {H : List Ent} {news : List (Nat × Obj)} {b : Nat} {o : Obj} {wr : Bool} (h : St [b] w0 w H) (_ : b < w0.heap.size) (hm : (⟨b, wr, o⟩ : Ent) ∈ H) (hs : SubH (ents news) H) (hne : ∀ p ∈ news, p.1 ≠ b) : Turn [(b, o)] news w0 w := by
 refine ⟨h.os, h.tape, h.output, h.size, fun k hk hkm => h.frame k hk (by simpa using hkm), ?_, fun p hp => ?_, ?_⟩
 ·intro p hp
  simp only [List.mem_singleton] at hp
  subst hp
  exact h.get hm
 ·have hm' : (⟨p.1, true, p.2⟩ : Ent) ∈ H := List.Sublist.subset hs (List.mem_map.2 ⟨p, hp, rfl⟩)
  have := h.own _ hm'
  exact ⟨(this.2 rfl).resolve_right (by simpa using hne p hp), this.1⟩
 ·have := List.Pairwise.sublist hs h.apart
  exact (List.pairwise_map.1 this).imp fun hne e => by have := (hne e).1; simp at this
theorem retT {v u : Value} {w w' : World} {H : List Ent} {b : Nat} {o : Obj} {wr : Bool} (hs : St [b] w w' H) (hb : b < w.heap.size) (hm : (⟨b, wr, o⟩ : Ent) ∈ H) (h : v = u) : Ending.returned v = .returned u ∧ Turn [(b, o)] [] w w' :=
 ⟨by rw [h], hs.turned hb hm (SubH.nil) Zgh⟩
theorem giveT_of_W {P : Program} {f : FuncId} {fn : Func} {c : Code} {vs : List Value} {w : World} {v : Value} {n : Nat} {H : List Ent} {b : Nat} {o : Obj}
  (hf : P.funcs[f]? = some fn) (hb : fn.body = some c) (hn : fn.ntmps = n) (hl : vs.length ≤ n) (hs : St [b] w w H)
  (h : W P (bodyPost P fn fun e w' => e = .returned v ∧ Turn [(b, o)] [] w w') [b] w n [] [.inl c] (argL 0 vs) H) : Calls P f vs.toArray w (GiveT v b o w) :=
 calls_of_W hf hb hn hl hs h
theorem run_bin_shift {P : Program} {w : World} {op : BinOp} {t t' : TypeId} {a : Act} {k k' : IntKind} {m j : Int} {v : Value} {dst : Option Tmp} {pos : String} {after : Array Edge} {g : Option (Nat × Bool)} (ho : op = .shl ∨ op = .shr)
  (hx : a.eval x = .int k m) (hy : a.eval y = .int k' j) (hr : (Op.shift op k m k' j).run P w = .ok v w) :
  (execOp a.eval ⟨dst, .binOp op t x y t', oty, pos, after, g⟩).run P w = .ok (.value v) w := by
 have hg : (eqGuard op t x y (.int k m) (.int k' j)).run P w = .ok () w := by
  unfold eqGuard
  rcases ho with rfl | rfl <;> simp
 rcases ho with rfl | rfl <;> simp [execOp, hx, hy, hg, hr, binOp]
theorem ev_shl {k k' : IntKind} {m j : Int} (hx : evo L x = some (.int k m)) (hy : evo L y = some (.int k' j)) (h0 : 0 ≤ j) : Ev P M w0 n D L H (.binOp .shl t x y t') oty (.int k (k.wrap (m * 2 ^ (min j.toNat k.bits)))) :=
 fun a w hf _ _ _ _ _ => run_bin_shift (.inl rfl) (hf.eval hx) (hf.eval hy) (by simp [Op.shift, show ¬ j < 0 by omega])
theorem ev_shr {k k' : IntKind} {m j : Int} (hx : evo L x = some (.int k m)) (hy : evo L y = some (.int k' j)) (h0 : 0 ≤ j) : Ev P M w0 n D L H (.binOp .shr t x y t') oty (.int k (m.fdiv (2 ^ (min j.toNat k.bits)))) :=
 fun a w hf _ _ _ _ _ => run_bin_shift (.inr rfl) (hf.eval hx) (hf.eval hy) (by simp [Op.shift, show ¬ j < 0 by omega])
theorem ev_or {k : IntKind} {m j : Int} (hx : evo L x = some (.int k m)) (hy : evo L y = some (.int k j)) : Ev P M w0 n D L H (.binOp .or t x y t') oty (.int k (k.wrap (BitVec.ofInt k.bits m ||| BitVec.ofInt k.bits j).toNat)) :=
 fun a w hf _ _ _ _ _ => run_bin_int (hf.eval hx) (hf.eval hy) (by simp [binOp, Op.intBits])
theorem ev_and {k : IntKind} {m j : Int} (hx : evo L x = some (.int k m)) (hy : evo L y = some (.int k j)) : Ev P M w0 n D L H (.binOp .and t x y t') oty (.int k (k.wrap (BitVec.ofInt k.bits m &&& BitVec.ofInt k.bits j).toNat)) :=
 fun a w hf _ _ _ _ _ => run_bin_int (hf.eval hx) (hf.eval hy) (by simp [binOp, Op.intBits])
theorem ev_addK {k : IntKind} {m j : Int} (hx : evo L x = some (.int k m)) (hy : evo L y = some (.int k j)) (hw : k.wrap (m + j) = m + j) : Ev P M w0 n D L H (.binOp .add t x y t') oty (.int k (m + j)) := (ev_add hx hy).to (by rw [hw])
theorem ev_subK {k : IntKind} {m j : Int} (hx : evo L x = some (.int k m)) (hy : evo L y = some (.int k j)) (hw : k.wrap (m - j) = m - j) : Ev P M w0 n D L H (.binOp .sub t x y t') oty (.int k (m - j)) := (ev_sub hx hy).to (by rw [hw])
theorem ev_convK {k k' : IntKind} {m : Int} (hs : ∃ d, P.underlying t = some d) (ht : P.underlying t' = some (.int k)) (hx : evo L x = some (.int k' m)) (hw : k.wrap m = m) : Ev P M w0 n D L H (.convert t t' x) oty (.int k m) := (ev_conv hs ht hx).to (by rw [hw])
def sobj (l : List UInt8) (i : Nat) : Obj := .stringIter ⟨l.toArray⟩ i
theorem wl_rangeStr {l : List UInt8} (hg : gdv ops L g = some true) (hd : Nat.blt d n = true) (ht : P.underlying t = some .string) (hx : evo L x = some (.string ⟨l.toArray⟩))
  (h : ∀ b, Wl P ops Q M w0 n D rest ((d, .pointer (some ⟨b, 0, none⟩)) :: L) (⟨b, true, sobj l 0⟩ :: H)) : Wl P ops Q M w0 n D (⟨some d, .range t x, oty, pos, after, g⟩ :: rest) L H :=
 wl_new (o := sobj l 0) (v := fun b => .pointer (some ⟨b, 0, none⟩)) hg hd (fun a w hf _ => by
  simp [execOp, hf.eval hx, run_range_string w t _ ht, World.iter, sobj]) h
theorem wl_nextStr {l : List UInt8} {i : Nat} {r : Nat} {H' : List Ent} (hg : gdv ops L g = some true) (hd : Nat.blt d n = true) (hx : evo L x = some (.pointer (some ⟨r, 0, none⟩))) (hi : i < l.length)
  (hu : Upd H r (sobj l i) (sobj l (i + (Utf8.decode ⟨l.toArray⟩ i).2)) H')
  (h : Wl P ops Q M w0 n D rest ((d, .tuple #[.bool true, .int .i64 i, .int .i32 (Utf8.decode ⟨l.toArray⟩ i).1]) :: L) H') : Wl P ops Q M w0 n D (⟨some d, .next x true, oty, pos, after, g⟩ :: rest) L H := by
 intro a w hf hs
 have hr0 := hs.get hu.mem
 have hlt := lt_of_get hr0
 unfold wpList
 rw [if_pos Zck]
 refine .inl ?_
 unfold Oper.wp
 have hex : (execOp a.eval ⟨some d, .next x true, oty, pos, after, g⟩).run P w = .ok (.value (.tuple #[.bool true, .int .i64 i, .int .i32 (Utf8.decode ⟨l.toArray⟩ i).1])) { w with heap := w.heap.setIfInBounds r (sobj l (i + (Utf8.decode ⟨l.toArray⟩ i).2)) } := by
  simp [execOp, hf.eval hx, Instr.next, getObj, setObj, Sem.run, hr0, sobj, bytes_size, hi, goInt]
 rw [hex]
 exact h _ _ (hf.put (dst := some d) Zct) (hs.upd hu (w' := { w with heap := w.heap.setIfInBounds r (sobj l (i + (Utf8.decode ⟨l.toArray⟩ i).2)) })
  ⟨rfl, rfl, rfl, by simp, fun k _ hk => by
   have : r ≠ k := fun e => hk (by rw [e])
   simp [Array.getElem?_setIfInBounds_ne this]⟩ (by simp [hlt]))
theorem wl_nextStr' {l : List UInt8} {i : Nat} {r c wd : Nat} {H' : List Ent} (hg : gdv ops L g = some true) (hd : Nat.blt d n = true) (hx : evo L x = some (.pointer (some ⟨r, 0, none⟩))) (hi : i < l.length)
  (hdec : Utf8.decode ⟨l.toArray⟩ i = (c, wd)) (hu : Upd H r (sobj l i) (sobj l (i + wd)) H')
  (h : Wl P ops Q M w0 n D rest ((d, .tuple #[.bool true, .int .i64 i, .int .i32 c]) :: L) H') : Wl P ops Q M w0 n D (⟨some d, .next x true, oty, pos, after, g⟩ :: rest) L H :=
 wl_nextStr hg hd hx hi (by rw [hdec]; exact hu) (by rw [hdec]; exact h)
theorem ev_nextStr_end {l : List UInt8} {i : Nat} {r : Nat} {wr : Bool} (hx : evo L x = some (.pointer (some ⟨r, 0, none⟩))) (hm : (⟨r, wr, sobj l i⟩ : Ent) ∈ H) (hi : ¬ i < l.length) : Ev P M w0 n D L H (.next x true) oty (.tuple #[.bool false]) := fun a w hf hs dst pos after g => by
 have hr0 := hs.get hm
 simp [execOp, hf.eval hx, Instr.next, getObj, Sem.run, hr0, sobj, bytes_size, hi]
theorem decode_low {l : List UInt8} {i : Nat} (hi : i < l.length) (h : (l.getD i 0).toNat < 128) : Utf8.decode ⟨l.toArray⟩ i = ((l.getD i 0).toNat, 1) := by
 have e : (ByteArray.mk l.toArray)[i]'Zfw = l.getD i 0 := by
  simp [List.getD, hi]
  rfl
 have := decode_ascii ⟨l.toArray⟩ i Zfw (by rw [e]; exact h)
 rw [this, e]
theorem decode_up {l : List UInt8} {i : Nat} (hi : i < l.length) (h : 128 ≤ (l.getD i 0).toNat) : 128 ≤ (Utf8.decode ⟨l.toArray⟩ i).1 ∧ 1 ≤ (Utf8.decode ⟨l.toArray⟩ i).2 := by
 have e : (ByteArray.mk l.toArray)[i]'Zfw = l.getD i 0 := by
  simp [List.getD, hi]
  rfl
 exact decode_high ⟨l.toArray⟩ i Zfw (by rw [e]; exact h)
def bytV (l : List UInt8) : List Value := l.map fun b => .int .u8 b.toNat
theorem wl_strBytes {l : List UInt8} {e : TypeId} (hg : gdv ops L g = some true) (hd : Nat.blt d n = true) (hs : P.underlying t = some .string) (hdt : P.underlying t' = some (.slice e)) (he : P.underlying e = some (.int .u8)) (hx : evo L x = some (.string ⟨l.toArray⟩))
  (h : ∀ b cap, l.length ≤ cap → Wl P ops Q M w0 n D rest ((d, .slice (some ⟨b, 0, none⟩) l.length cap) :: L) (⟨b, true, .cells (bytV l ++ List.replicate (cap - l.length) (Value.int .u8 0)).toArray e (cap, cap + 1)⟩ :: H)) :
  Wl P ops Q M w0 n D (⟨some d, .convert t t' x, oty, pos, after, g⟩ :: rest) L H := by
 intro a w hf hst
 unfold wpList
 rw [if_pos Zck]
 refine .inl ?_
 unfold Oper.wp
 have hr := run_bytes_of_string (P := P) w t t' e ⟨l.toArray⟩ hs hdt he
 have hsz : (⟨l.toArray⟩ : ByteArray).size = l.length := bytes_size l
 rw [hsz] at hr
 have hge := grownCap_ge w l.length 0 e
 generalize grownCap w l.length 0 e = cap at hr hge
 have hrow : bytesRow ⟨l.toArray⟩ cap = (bytV l ++ List.replicate (cap - l.length) (Value.int .u8 0)).toArray := by
  apply Array.ext'
  simp [bytesRow, bytV, hsz]
 have hrs : (bytV l ++ List.replicate (cap - l.length) (Value.int .u8 0)).toArray.size = cap := by simp [bytV]; omega
 rw [hrow, hrs] at hr
 have hex : (execOp a.eval ⟨some d, .convert t t' x, oty, pos, after, g⟩).run P w = ((convert t t' (.string ⟨l.toArray⟩)).run P w).andThen fun v w' => .ok (.value v) w' := by
  simp [execOp, hf.eval hx]
 rw [hex, hr]
 exact h _ _ hge _ _ (hf.put (dst := some d) Zct) (hst.drew.alloc _)
theorem wl_storeCell {b off : Nat} {v : Value} {c : Array Value} {e : TypeId} {fr : Nat × Nat} {H' : List Ent} (hg : gdv ops L g = some true) (hx : evo L x = some (.pointer (some ⟨b, off, none⟩))) (hy : evo L y = some v) (h1 : v.oneCell' = true)
  (hs : Sz P t 1) (hu : Upd H b (.cells c e fr) (.cells (c.setIfInBounds off v) e fr) H') (hlen : off < c.size) (hfr : ¬(fr.1 ≤ off ∧ off < fr.2)) (h : Wl P ops Q M w0 n D rest L H') : Wl P ops Q M w0 n D (⟨none, .store t x y, oty, pos, after, g⟩ :: rest) L H :=
 Wl.act0 hg (fun a w hf hst => by
  have hb := hst.get hu.mem
  have hlt := lt_of_get hb
  have hcells : v.cells = #[v] := by cases v <;> first | rfl | cases h1
  have hcell : w.cell? ⟨b, off, none⟩ = some c[off] := by rw [cell_cells hb]; simp [hlen]
  have hfz : w.frozen? ⟨b, off, none⟩ = false := by
   simp only [World.frozen?, hb]
   simp
   omega
  refine ⟨w.setCell ⟨b, off, none⟩ v, ?_, hst.upd hu (w' := w.setCell ⟨b, off, none⟩ v) ⟨rfl, rfl, rfl, by simp [World.setCell], fun k _ hk => ?_⟩ ?_⟩
  ·have hrun : (store ⟨b, off, none⟩ v).run P w = .ok () (w.setCell ⟨b, off, none⟩ v) := by
    rw [run_store P w ⟨b, off, none⟩ v _ h1]
    simp [hcell, hfz]
   have hsv : (storeVar t ⟨b, off, none⟩ v).run P w = .ok () (w.setCell ⟨b, off, none⟩ v) := by
    simp [storeVar, run_sizeOf hs, hcells, storeCells, Addr.add, hrun]
   simp [execOp, hf.eval hx, hf.eval hy, Instr.storeAt, Instr.sureAddr, hsv]
  ·have : b ≠ k := fun e => hk (by rw [e])
   simp [World.setCell, Array.getElem?_modify, this]
  ·simp [World.setCell, Array.getElem?_modify, hb]) h
end
end Go.PB
namespace Go.PB
open Go.RowKit
section
variable {P : Program} {ops : Array Oper} {md : Region.Mode} {C : World → Prop}
def wpAnyT (P : Program) (md : Region.Mode) (ops : Array Oper) (C : World → Prop) (n : Nat) (F : Array Bool → Act → Prop) : Nat → Array Bool → Act → Prop
 | 0, listed, a => F listed a
 | f + 1, listed, a => Region.ready md ops listed ≠ [] ∧ ∀ i ∈ Region.ready md ops listed, i < n ∧ qOp P ops C i (wpAnyT P md ops C n F f (listed.setIfInBounds i true)) a
theorem any_of_T {n g : Nat} {F : Array Bool → Act → Prop} {Q' : Exit → Act → World → Prop} (hF : ∀ listed a w, C w → F listed a → wpAny P md ops Q' g listed a w) :
  ∀ (f : Nat) (listed : Array Bool) (a : Act) (w : World), C w → wpAnyT P md ops C n F f listed a → wpAny P md ops Q' (f + g) listed a w
 | 0, listed, a, w, hw, h => by rw [Nat.zero_add]; exact hF _ _ _ hw h
 | f + 1, listed, a, w, hw, h => by
  rw [show f + 1 + g = (f + g) + 1 by omega]
  exact ⟨fun h0 => absurd h0 h.1, fun i hi => wpOp_of_qOp hw (fun a' w' hw' h' => any_of_T hF f _ a' w' hw' h') (h.2 i hi).2⟩
theorem anyT_first {n i : Nat} {oi : Oper} {v : Value} {F : Array Bool → Act → Prop} (hi : ops[i]? = some oi) (hsel : ∀ (j : Nat) (o : Oper) cs b, ops[j]? = some o → o.op ≠ .select cs b)
  (hs : Region.sinkB md ops n = true) (hc : Region.chainB md ops n = true) (hn : n < ops.size) (hin : i < n)
  (hdone : ∀ listed a, F listed a → ∀ j ∈ Region.ready md ops listed, n ≤ j) :
  ∀ (f : Nat) (listed : Array Bool) (a : Act), HeadInv md ops n listed →
   (∀ j oj, ops[j]? = some oj → j ≠ i → listed.getD j true = false → (∀ e ∈ oj.after, Region.binds md e = true → e.on ≠ i) → oi.apart ops oj = true) →
   i ∈ Region.ready md ops listed → YieldsIn P ops C oi v a →
   wpAnyT P md ops C n F f (listed.setIfInBounds i true) (a.put oi.dst v) → wpAnyT P md ops C n F (f + 1) listed a
 | f, listed, a, inv, hfree, hr, hy, H => by
  have hun := (mem_ready.1 hr).1
  refine ⟨fun h => (by rw [h] at hr; cases hr), fun j hj => ?_⟩
  have hjn : j < n := Nat.lt_of_not_le fun h => tail_waits hs hc hn inv _ i rfl hin hun j h hj
  refine ⟨hjn, ?_⟩
  by_cases hji : j = i
  ·subst hji
   exact hy.qOp hi H
  cases f with
  | zero =>
   have := hdone _ _ H j (ready_mono hj hji)
   omega
  | succ f =>
   have h1 := (H.2 j (ready_mono hj hji)).2
   obtain ⟨hjun, oj, hoj, hall⟩ := mem_ready.1 hj
   have hnot : ∀ e ∈ oj.after, Region.binds md e = true → e.on ≠ i := fun e he hb heq => by
    have h1 := hall e he hb
    rw [heq, getD_both hun] at h1
    cases h1
   have h2 := qOp_put hoj (hfree j oj hoj hji hjun hnot) (fun cs b => hsel i oi cs b hi) (fun cs b => hsel j oj cs b hoj) hy h1
   have hfree' : ∀ k ok, ops[k]? = some ok → k ≠ i → (listed.setIfInBounds j true).getD k true = false →
     (∀ e ∈ ok.after, Region.binds md e = true → e.on ≠ i) → oi.apart ops ok = true := fun k ok hk hki hun hno => by
    refine hfree k ok hk hki ?_ hno
    by_cases hjk : j = k
    ·subst hjk; exact hjun
    ·rw [getD_set_ne true hjk] at hun; exact hun
   refine qOp_mono (fun a' h3 => anyT_first hi hsel hs hc hn hin hdone f (listed.setIfInBounds j true) a' (inv.set hj hjn) hfree' (ready_mono hr (Ne.symm hji)) h3.1 ?_) h2
   rw [Array.setIfInBounds_comm _ _ hji]
   exact h3.2
theorem anyT_lex {n g : Nat} {Lq : Act → Prop} (hsel : Region.noSelect ops = true) (hs : Region.sinkB md ops n = true) (hc : Region.chainB md ops n = true) (hn : n < ops.size) :
  ∀ (l : List Oper) (k : Nat) (listed : Array Bool) (a : Act), (∀ j, j < l.length → l[j]? = ops[k + j]?) → k + l.length = n → HeadInv md ops n listed →
  Region.lexHead md ops g l.length k listed = true → wpQuiet P ops C Lq l a →
  wpAnyT P md ops C n (fun listed' a' => Region.seqB md ops g n listed' = true ∧ Lq a') l.length listed a
 | [], k, listed, a, _, hk, _, hB, h => by
  obtain rfl : k = n := by simpa using hk
  exact ⟨by simpa [Region.lexHead] using hB, h⟩
 | o :: l, k, listed, a, hl, hk, inv, hB, h => by
  have h0 : ops[k]? = some o := by simpa using (hl 0 Zgh).symm
  simp only [List.length_cons, Region.lexHead, Bool.and_eq_true] at hB
  obtain ⟨⟨hr, hf⟩, hB'⟩ := hB
  have hkn : k < n := by simp only [List.length_cons] at hk; omega
  have hr' : k ∈ Region.ready md ops listed := by simpa using hr
  have hst : qOp P ops C k (wpQuiet P ops C Lq l) a := by unfold qOp; simp only [h0]; exact h
  obtain ⟨v, hy, hK⟩ := yieldsIn_of_qOp h0 hst
  exact anyT_first h0 (Region.noSelect_spec hsel) hs hc hn hkn (fun listed' a' hL => seqB_ready hL.1) l.length listed a inv (Region.free_spec h0 hf) hr' hy
   (anyT_lex hsel hs hc hn l (k + 1) _ _ (fun j hj => by have := hl (j + 1) Zja; simpa [Nat.add_assoc, Nat.add_comm 1 j] using this) (by simp only [List.length_cons] at hk; omega) (inv.set hr' hkn) hB' hK)
theorem region_quiet_tail {id : Nat} {Q : Exit → Act → World → Prop} {a : Act} {w : World} {l : List Oper} (n : Nat) (hm : P.follows .mixedOrders = true) (hB : Region.lexTailB .any l.toArray n = true)
  (hw : C { w with drawn := w.drawn + 1 }) (h : wpQuiet P l.toArray C (fun a' => ∀ w', C w' → wpList P l.toArray Q (l.drop n) a' w') (l.take n) a) : (Code.region id l.toArray true).wp P Q a w := by
 simp only [Region.lexTailB, Bool.and_eq_true, decide_eq_true_eq] at hB
 obtain ⟨⟨⟨⟨hsel, hn⟩, hs⟩, hc⟩, hlex⟩ := hB
 have hn' : n < l.length := by simpa using hn
 have htl : (l.take n).length = n := by simp; omega
 have hdl : (l.drop n).length = l.toArray.size - n := by simp
 have inv0 : HeadInv .any l.toArray n (Array.replicate l.toArray.size false) :=
  ⟨by simp, fun j oj _ hl => (by rw [getD_replicate_false] at hl; cases hl), fun t _ ht => getD_in (by simpa using ht) (getD_replicate_false _ _)⟩
 have H := anyT_lex (md := .any) (g := l.toArray.size - n) hsel hs hc hn (l.take n) 0 _ a (fun j hj => by
  have hj' : j < n := by rw [htl] at hj; exact hj
  simp [hj']) (by simpa using htl) inv0 (by rw [htl]; exact hlex) h
 refine wp_region_any hm ?_
 have := any_of_T (Q' := Q) (g := l.toArray.size - n) (fun listed a' w' hw' hL => by
  have := wpAny_of_seq (md := .any) (Q' := Q) (l.drop n) n listed a' w' (fun j => by simp [List.getElem?_drop]) (by rw [hdl]; exact hL.1) (hL.2 w' hw')
  rwa [hdl] at this) _ _ _ _ hw H
 rw [htl, show n + (l.toArray.size - n) = l.toArray.size by omega] at this
 exact this
end
section
variable {P : Program} {Z : Exit → Act → World → Prop} {ops : Array Oper} {Q : Exit → Act → World → Prop} {M : List Nat} {w0 : World} {n : Nat} {D : List Deferred} {L L' : List (Nat × Value)} {H H' : List Ent} {rest : List Oper} {k : List Kt}
 {d : Tmp} {dst : Option Tmp} {op : Op} {oty t t' : TypeId} {pos : String} {after : Array Edge} {g : Option (Nat × Bool)} {x y z : Operand}
def Qt (P : Program) (ops : Array Oper) (Q : Exit → Act → World → Prop) (l : List Oper) : Exit → Act → World → Prop := fun _ a w => wpList P ops Q l a w
theorem W.regionT {id : Nat} {l l1 l2 : List Oper} (nt : Nat) (hm : P.follows .mixedOrders = true) (hB : Region.lexTailB .any l.toArray nt = true) (h1 : l.take nt = l1) (h2 : l.drop nt = l2)
  (h : Wq P l.toArray (Qt P l.toArray (kpost P Z k) l2) M w0 n D l1 L H) : W P Z M w0 n D (.inl (.region id l.toArray true) :: k) L H := by
 subst h1 h2
 exact fun a w hf hs => region_quiet_tail (C := fun w => St M w0 w H) nt hm hB hs.drew (h a hf)
theorem Wq.tail {l : List Oper} (h : Wl P ops Q M w0 n D l L H) : Wq P ops (Qt P ops Q l) M w0 n D [] L H := fun a hf w hs => h a w hf hs
theorem wl_callF {f : FuncId} {fx : Operand} {xs : List Operand} {vs : List Value} {ats : Array TypeId} {v : Value} (hg : gdv ops L g = some true) (hd : Nat.blt d n = true)
  (hh : Has P f) (hfx : evo L fx = some (.func (.func f) #[] #[])) (hv : evos L xs = some vs) (hc : ∀ w, St M w0 w H → Calls P f vs.toArray w (Give v w)) (h : Wl P ops Q M w0 n D rest ((d, v) :: L) H) :
  Wl P ops Q M w0 n D (⟨some d, .call { callee := .value fx, args := xs.toArray, argTypes := ats }, oty, pos, after, g⟩ :: rest) L H := by
 intro a w hf hs
 unfold wpList
 rw [if_pos Zck]
 refine .inl ?_
 unfold Oper.wp
 rw [run_call hf hh (fx := fx) (cs := []) hfx hv]
 simp only [List.append_nil]
 refine (hc w hs).mono fun e w' hR => ?_
 obtain ⟨rfl, hx⟩ := hR
 exact h _ _ (hf.put (dst := some d) Zct) (hs.ext hx)
end
end Go.PB
namespace Go.PB
section
variable {P : Program} {ops : Array Oper} {Q : Exit → Act → World → Prop} {M : List Nat} {w0 : World} {n : Nat} {D : List Deferred} {L : List (Nat × Value)} {H : List Ent} {oty : TypeId} {v : Value} {l : List Oper}
theorem gLoa {t : TypeId} {y : Operand} (h : Ev P M w0 n D L H (.load t y) oty v) : Ev P M w0 n D L H (.load t y) oty v := h
theorem gFie {t : TypeId} {y : Operand} {i : Nat} (h : Ev P M w0 n D L H (.fieldAddr t y i) oty v) : Ev P M w0 n D L H (.fieldAddr t y i) oty v := h
theorem gPic {x : Operand} {y : Operand} {z : Operand} (h : Ev P M w0 n D L H (.pick x y z) oty v) : Ev P M w0 n D L H (.pick x y z) oty v := h
theorem gBin {o : BinOp} {t : TypeId} {x : Operand} {y : Operand} {t' : TypeId} (h : Ev P M w0 n D L H (.binOp o t x y t') oty v) : Ev P M w0 n D L H (.binOp o t x y t') oty v := h
theorem gUn {u : UnOp} {t : TypeId} {x : Operand} (h : Ev P M w0 n D L H (.unOp u t x) oty v) : Ev P M w0 n D L H (.unOp u t x) oty v := h
theorem gBui {t : TypeId} {c} (h : Ev P M w0 n D L H (.build t c) oty v) : Ev P M w0 n D L H (.build t c) oty v := h
theorem gCal {q} (h : Ev P M w0 n D L H (.call q) oty v) : Ev P M w0 n D L H (.call q) oty v := h
theorem gIxA {t : TypeId} {x : Operand} {y : Operand} (h : Ev P M w0 n D L H (.indexAddr t x y) oty v) : Ev P M w0 n D L H (.indexAddr t x y) oty v := h
theorem gIdx {t : TypeId} {x : Operand} {y : Operand} (h : Ev P M w0 n D L H (.index t x y) oty v) : Ev P M w0 n D L H (.index t x y) oty v := h
theorem gSli {t : TypeId} {x : Operand} {a : Option Operand} {b : Option Operand} {c' : Option Operand} (h : Ev P M w0 n D L H (.slice t x a b c') oty v) : Ev P M w0 n D L H (.slice t x a b c') oty v := h
theorem gCon {t : TypeId} {t' : TypeId} {x : Operand} (h : Ev P M w0 n D L H (.convert t t' x) oty v) : Ev P M w0 n D L H (.convert t t' x) oty v := h
theorem gNil {x : Operand} (h : Ev P M w0 n D L H (.nilCheck x) oty v) : Ev P M w0 n D L H (.nilCheck x) oty v := h
theorem gNex {x : Operand} {j : Bool} (h : Ev P M w0 n D L H (.next x j) oty v) : Ev P M w0 n D L H (.next x j) oty v := h
theorem gFld {t : TypeId} {x : Operand} {i : Nat} (h : Ev P M w0 n D L H (.field t x i) oty v) : Ev P M w0 n D L H (.field t x i) oty v := h
theorem gL (h : Wl P ops Q M w0 n D l L H) : Wl P ops Q M w0 n D l L H := h
theorem gQ (h : Wq P ops Q M w0 n D l L H) : Wq P ops Q M w0 n D l L H := h
end
end Go.PB
attribute [irreducible] Go.PB.Ev Go.PB.Wl Go.PB.W Go.PB.Wq Go.PB.Wd
namespace Go.PB
section
variable {P : Program} {ops : Array Oper} {Q : Exit → Act → World → Prop} {M : List Nat} {w0 : World} {n : Nat} {D : List Deferred} {L : List (Nat × Value)} {H : List Ent} {oty : TypeId} {l : List Oper}
theorem lC (d f : Nat) {x y o q a g} (h : Wl P ops Q M w0 n D (⟨some d, .call ⟨.value (.func f), x, y⟩, o, q, a, g⟩ :: l) L H) : Wl P ops Q M w0 n D (⟨some d, .call ⟨.value (.func f), x, y⟩, o, q, a, g⟩ :: l) L H := h
theorem lD (f : Nat) {d x y o q a g} (h : Wl P ops Q M w0 n D (⟨d, .call ⟨.value (.func f), x, y⟩, o, q, a, g⟩ :: l) L H) : Wl P ops Q M w0 n D (⟨d, .call ⟨.value (.func f), x, y⟩, o, q, a, g⟩ :: l) L H := h
theorem qC (d f : Nat) {x y o q a g} (h : Wq P ops Q M w0 n D (⟨some d, .call ⟨.value (.func f), x, y⟩, o, q, a, g⟩ :: l) L H) : Wq P ops Q M w0 n D (⟨some d, .call ⟨.value (.func f), x, y⟩, o, q, a, g⟩ :: l) L H := h
theorem qD (f : Nat) {d x y o q a g} (h : Wq P ops Q M w0 n D (⟨d, .call ⟨.value (.func f), x, y⟩, o, q, a, g⟩ :: l) L H) : Wq P ops Q M w0 n D (⟨d, .call ⟨.value (.func f), x, y⟩, o, q, a, g⟩ :: l) L H := h
theorem lV (d : Nat) {v x y o q a g} (h : Wl P ops Q M w0 n D (⟨some d, .call ⟨.value v, x, y⟩, o, q, a, g⟩ :: l) L H) : Wl P ops Q M w0 n D (⟨some d, .call ⟨.value v, x, y⟩, o, q, a, g⟩ :: l) L H := h
theorem lA (d : Nat) {t o q a g} (h : Wl P ops Q M w0 n D (⟨some d, .alloc t, o, q, a, g⟩ :: l) L H) : Wl P ops Q M w0 n D (⟨some d, .alloc t, o, q, a, g⟩ :: l) L H := h
theorem lB (d : Nat) {x t o q a g} (h : Wl P ops Q M w0 n D (⟨some d, .box t x, o, q, a, g⟩ :: l) L H) : Wl P ops Q M w0 n D (⟨some d, .box t x, o, q, a, g⟩ :: l) L H := h
theorem lW {Z k} (h : W P Z M w0 n D k L H) : W P Z M w0 n D k L H := h
end
end Go.PB
