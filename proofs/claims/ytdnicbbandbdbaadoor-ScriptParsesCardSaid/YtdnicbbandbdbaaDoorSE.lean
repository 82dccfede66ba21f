/- Walks: what is written: numbers, bytes, quoted texts. No condition but the listed tables that the library reads. -/
import Derived.Test.YtdnicbbandbdbaaDoorSD
namespace Go.Proofs.YtdnicbbandbdbaaDoor
open Go.PB Go.RowKit
attribute [local irreducible] Go.Calls
theorem Lb.size {w : World} (h : Lb w) : 6 ≤ w.heap.size := by
  have := h.pw
  unfold Pows Lib.TabIs World.var? at this
  obtain ⟨g, hg, hv⟩ := Option.bind_eq_some_iff.1 this
  have e : Tryd.prog.globalNamed "internal/strconv.uint64pow10" = some 5 := by kernel_rfl
  rw [e] at hg
  cases hg
  refine Nat.lt_of_not_le fun hle => ?_
  rw [Array.getElem?_eq_none hle] at hv
  cases hv
theorem Lb.low {M : List Nat} {w0 w : World} {H : List Ent} (lb : Lb w0) (hs : St M w0 w H) (lo : Low M) : Low (wrs H) := fun b hb => by
  obtain ⟨p, hp, rfl⟩ := List.mem_map.1 hb
  obtain ⟨hp, hw⟩ := List.mem_filter.1 hp
  rcases (hs.own p hp).2 hw with h | h
  · have := lb.size; omega
  · exact lo _ h
theorem itoa_ok (n : Int) (h0 : -9223372036854775808 ≤ n) (h1 : n ≤ 9223372036854775807) (w : World) (h : Pows w) : Calls Tryd.prog 61 #[.int .i64 n] w (Give (st (Lib.itoa n)) w) := by
  refine (Tryd.strconv_Itoa n h0 h1 w h).mono ?_
  rintro e w' ⟨rfl, n, os, rfl⟩
  refine ⟨rfl, ?_⟩
  refine ⟨rfl, rfl, rfl, by simp [Sort.grow], fun k hk _ => ?_, by simp, by simp, .nil⟩
  have : k < (w.drewN n).heap.size := hk
  simp [Sort.grow, Array.getElem?_append]
  intro hle; omega
/-- a writer that has written so much, and what else is known -/
abbrev wrH (bt : TypeId) (b : Nat) (p : Value) (l : List UInt8) (o : Ow) (A : List Ent) : List Ent := ⟨b, true, bld bt p l.length o⟩ :: (A ++ ownH 5 o)
def selfP (b : Nat) (p : Value) : Prop := p = .pointer none ∨ p = .pointer (some ⟨b, 0, none⟩)
def wrOk (b : Nat) (p : Value) (l : List UInt8) (o : Ow) : Prop := selfP b p ∧ ownOk l.length 1 (bytV l) o
theorem bytV_app (a b : List UInt8) : bytV (a ++ b) = bytV a ++ bytV b := by simp [bytV]
theorem wByte {bt : TypeId} (hbt : BT bt) {M : List Nat} {w0 w : World} {A : List Ent} {b : Nat} {p : Value} {o : Ow} {l : List UInt8} (c : UInt8) (hok : wrOk b p l o) (hl : l.length ≤ 1000000000) (hst : St M w0 w (wrH bt b p l o A)) :
    Calls Tryd.prog 35 #[ptr b, by8 c] w (GivesS (fun _ : Ow => .nilIface) (fun o' => wrOk b (ptr b) (l ++ [c]) o') M w0 (fun o' => wrH bt b (ptr b) (l ++ [c]) o' A)) := by
  refine (writeByte_ok hbt c hok.1 hok.2 hl hst).mono fun e w' ⟨q, h1, h2, h3⟩ => ⟨q, ⟨.inr rfl, ?_⟩, h2, ?_⟩
  · rw [bytV_app]
    simpa [bytV] using h1
  · simpa [wrH] using h3
theorem wStr {bt : TypeId} (hbt : BT bt) {M : List Nat} {w0 w : World} {A : List Ent} {b : Nat} {p : Value} {o : Ow} {l : List UInt8} (s : List UInt8) (h0 : 0 < s.length) (hsl : s.length ≤ 1000000000) (hok : wrOk b p l o) (hl : l.length ≤ 1000000000) (hst : St M w0 w (wrH bt b p l o A)) :
    Calls Tryd.prog 33 #[ptr b, st s] w (GivesS (fun _ : Ow => .tuple #[.int .i64 (s.length : Nat), .nilIface]) (fun o' => wrOk b (ptr b) (l ++ s) o') M w0 (fun o' => wrH bt b (ptr b) (l ++ s) o' A)) := by
  refine (writeString_ok hbt s h0 hsl hok.1 hok.2 hl hst).mono fun e w' ⟨q, h1, h2, h3⟩ => ⟨q, ⟨.inr rfl, ?_⟩, h2, ?_⟩
  · rw [bytV_app]
    simpa using h1
  · simpa [wrH] using h3
theorem hexD_take (n : Nat) (h : n < 16) : (hexL.drop n).take 1 = [hexD n] := by
  have : ∀ k : Fin 16, (hexL.drop k.val).take 1 = [hexD k.val] := by decide
  exact this ⟨n, h⟩
theorem byte_hi (x : UInt8) : IntKind.u8.wrap ((x.toNat : Int).fdiv (2 ^ 4)) = ((x.toNat / 16 : Nat) : Int) ∧ (x.toNat : Int).fdiv (2 ^ 4) = ((x.toNat / 16 : Nat) : Int) := by
  have : ∀ k : Fin 256, IntKind.u8.wrap ((k.val : Int).fdiv (2 ^ 4)) = ((k.val / 16 : Nat) : Int) ∧ (k.val : Int).fdiv (2 ^ 4) = ((k.val / 16 : Nat) : Int) := by decide +kernel
  exact this ⟨x.toNat, x.toNat_lt⟩
theorem byte_lo (x : UInt8) : IntKind.u8.wrap (BitVec.ofInt 8 (x.toNat : Int) &&& BitVec.ofInt 8 15).toNat = ((x.toNat % 16 : Nat) : Int) := by
  have : ∀ k : Fin 256, IntKind.u8.wrap (BitVec.ofInt 8 (k.val : Int) &&& BitVec.ofInt 8 15).toNat = ((k.val % 16 : Nat) : Int) := by decide +kernel
  exact this ⟨x.toNat, x.toNat_lt⟩
set_option maxRecDepth 100000 in
set_option maxHeartbeats 4000000 in
theorem byte_ok {M : List Nat} {w0 w : World} {A : List Ent} {b : Nat} {p : Value} {o : Ow} {l : List UInt8} (x : UInt8) (hok : wrOk b p l o) (hl : l.length ≤ 1000000000) (hst : St M w0 w (wrH 68 b p l o A)) :
    Calls Tryd.prog 62 #[ptr b, by8 x] w (GivesS (fun _ : Ow => .tuple #[]) (fun o' => wrOk b (ptr b) (l ++ hexB x) o') M w0 (fun o' => wrH 68 b (ptr b) (l ++ hexB x) o' A)) := by
  refine calls_of_W (vs := [ptr b, by8 x]) Tryd.func62 rfl Tryd.ntmps62 (Nat.le_of_ble_eq_true rfl) hst.fromHere ?_
  simp only [argL]
  have hbt := bt_w
  have hx := x.toNat_lt
  have hi := (byte_hi x).2
  have lo := byte_lo x
  have t1 := hexD_take (x.toNat / 16) (by omega)
  have t2 := hexD_take (x.toNat % 16) (by omega)
  have d : ∀ n, n < 16 → (0 : Int) ≤ 1 ∧ (1 : Int) ≤ ((hexL.drop n).length : Nat) := fun n h => by
    rw [List.length_drop]
    have : hexL.length = 16 := by decide
    omega
  repeat' (first | (apply gL; first | (apply Wl.ev rfl rfl; (focus (first | exact ev_move rfl | (apply gFie; first | exact ev_fieldAddr0 (fldT rfl) rfl) | (apply gBin; first | exact (ev_shr rfl rfl (by decide)).to (congrArg (Value.int IntKind.u8) hi) | exact (ev_and rfl rfl).to (congrArg (Value.int IntKind.u8) lo) | exact (ev_cat rfl rfl (by simp)).to (show _ = st (hexB x) from rfl)) | (apply gSli; first | exact (ev_slice_string_hi (strT rfl) rfl rfl (d (x.toNat / 16) (by omega))).to (show _ = st [hexD (x.toNat / 16)] from congrArg st t1) | exact (ev_slice_string_hi (strT rfl) rfl rfl (d (x.toNat % 16) (by omega))).to (show _ = st [hexD (x.toNat % 16)] from congrArg st t2) | exact (ev_slice_string_lo (strT rfl) rfl rfl (by simp [hexL]; omega)).to (show _ = st (hexL.drop _) from rfl)) | exact ev_nilCheck_ptr rfl))) | ((show Wl _ _ _ _ _ _ _ (⟨_, .call ⟨.value (.func 33), _, _⟩, _, _, _, _⟩ :: _) _ _); refine wl_callS rfl rfl has33 rfl (fun w hs => wStr hbt _ (by first | exact Nat.succ_pos _ | omega | (simp; omega)) (by first | omega | (simp [hexB]; done) | (simp; omega) | decide) (by assumption) (by first | omega | (simp; omega)) hs) ?_; intro o2 hok2) | apply Wl.nil) | (apply gQ; first | (apply Wq.ev rfl rfl; (focus (first | exact ev_move rfl | (apply gFie; first | exact ev_fieldAddr0 (fldT rfl) rfl) | (apply gBin; first | exact (ev_shr rfl rfl (by decide)).to (congrArg (Value.int IntKind.u8) hi) | exact (ev_and rfl rfl).to (congrArg (Value.int IntKind.u8) lo) | exact (ev_cat rfl rfl (by simp)).to (show _ = st (hexB x) from rfl)) | (apply gSli; first | exact (ev_slice_string_hi (strT rfl) rfl rfl (d (x.toNat / 16) (by omega))).to (show _ = st [hexD (x.toNat / 16)] from congrArg st t1) | exact (ev_slice_string_hi (strT rfl) rfl rfl (d (x.toNat % 16) (by omega))).to (show _ = st [hexD (x.toNat % 16)] from congrArg st t2) | exact (ev_slice_string_lo (strT rfl) rfl rfl (by simp [hexL]; omega)).to (show _ = st (hexL.drop _) from rfl)) | exact ev_nilCheck_ptr rfl))) | ((show Wq _ _ (Qt _ _ _ _) _ _ _ _ [] _ _); apply Wq.tail)) | ((show W _ _ _ _ _ _ _ _ _); first | ((show W _ _ _ _ _ _ (.inl (.region 0 _ true) :: _) _ _); refine W.regionT 12 mixed (by kernel_rfl) rfl rfl ?_) | (refine W.end0 rfl ?_; intro w hs)))
  all_goals first | exact GivesS.of hst hs o2 hok2 rfl (List.Sublist.refl _) | fail
end Go.Proofs.YtdnicbbandbdbaaDoor
