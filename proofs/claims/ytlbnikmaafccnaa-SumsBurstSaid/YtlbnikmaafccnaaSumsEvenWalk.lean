/- The walk of SumsEven: the sum of two lists of one length, bit by bit, is theirs, and that of as many noughts; nothing that was there has turned. -/
import Derived.Test.YtlbnikmaafccnaaSumsPartsWalk
import Derived.Test.YtlbnikmaafccnaaSumsEvenLaw
import Derived.Laws.MakeOwn
import Derived.Test.YtlbnikmaafccnaaDrawn
namespace Go.Proofs.Ytlbnikmaafccnaa
open Go.RowKit Sm Bk
set_option linter.unusedVariables false
theorem made_zero (m : Nat) : madeCells (Value.int .u8 0).cells m = ((List.replicate m 0).map bv).toArray := by
  apply Array.ext
  · simp [size_madeCells]
  · intro i h1 h2
    simp [madeCells, bv, Value.cells, Nat.mod_one]
theorem run_mk (m : Nat) (hm : m ≤ 1000000) (W : World) : (Instr.makeSlice 63 (.int .i64 (m : Int)) (.int .i64 (m : Int))).run Try.prog W = .ok (.slice (some ⟨W.heap.size, 0, none⟩) m m) (W.alloc (.cells ((List.replicate m 0).map bv).toArray 5)) := by
  obtain ⟨i0, hi, hz0, hz1, hz2⟩ := info_parts info5
  have h := run_make (P := Try.prog) W 63 5 i0 (.int .u8 0) Try.underlying63 hi hz0 .i64 .i64 m m (by omega) (by omega) (by rw [hz2]; omega) (by omega)
  rw [h, hz1, ← made_zero]
  simp
/-- What the loop has laid: the first k bytes, and noughts. -/
def laid (zs : List Nat) (m k : Nat) : List Nat := zs.take k ++ List.replicate (m - k) 0
theorem laid_len (zs : List Nat) (m k : Nat) (h : zs.length = m) (hk : k ≤ m) : (laid zs m k).length = m := by unfold laid; simp; omega
theorem laid_step (zs : List Nat) (m k : Nat) (h : zs.length = m) (hk : k < m) : ((laid zs m k).map bv).toArray.setIfInBounds k (bv (zs[k]'(by omega))) = ((laid zs m (k + 1)).map bv).toArray := by
  apply Array.ext'
  rw [Array.toList_setIfInBounds]
  apply List.ext_getElem?
  intro j
  unfold laid
  rw [List.getElem?_set]
  simp only [List.map_append, List.map_take, List.map_replicate, List.getElem?_append, List.length_take, List.length_map, List.getElem?_take, List.getElem?_map, List.getElem?_replicate, h]
  by_cases hj : k = j
  · subst hj
    have : k < zs.length := by omega
    rw [if_pos rfl, if_pos (by simp; omega), if_pos (by omega), if_pos (by omega), List.getElem?_eq_getElem this]
    rfl
  · rw [if_neg hj]
    by_cases h1 : j < k
    · repeat rw [if_pos (by omega)]
    · rw [if_neg (by omega)]
      by_cases h2 : j < m
      · rw [if_pos (by omega), if_neg (by omega), if_pos (by omega)]
      · rw [if_neg (by omega), if_neg (by omega), if_neg (by omega)]
theorem Sl.of_row {W : World} {g : Nat} {us : List Value} (h : W.heap[g]? = some (.cells us.toArray 5 (0, 0))) : Sl W W.heap.size (some ⟨g, 0, none⟩) us := fun k u hu => by
  have e : (⟨g, 0, none⟩ : Addr).add k = ⟨g, k, none⟩ := by unfold Addr.add; split <;> simp_all
  exact ⟨_, rfl, lt_of_blk h, by rw [e, row_cell h k]; simpa using hu⟩
/-- A new block of one slice, of a new block of noughts. -/
def zrow (Z0 : Array Value) (m : Nat) : Dr.Sp := ⟨fun v w => ∃ h g, v = .slice (some ⟨h, 0, none⟩) 1 1 ∧ w.heap[h]? = some (.cells #[.slice (some ⟨g, 0, none⟩) m m] 63 (0, 0)) ∧ w.heap[g]? = some (.cells Z0 5 (0, 0)), fun _ _ _ ⟨h, g, h1, h2, h3⟩ hk => ⟨h, g, h1, hk h _ h2, hk g _ h3⟩⟩
theorem u8_xor_nat (a b : Nat) (ha : a < 256) (hb : b < 256) : bits .xor .u8 (a : Int) (b : Int) = ((a ^^^ b : Nat) : Int) := by
  have hx : a ^^^ b < 2 ^ 8 := Nat.xor_lt_two_pow (by omega) (by omega)
  have e : ∀ c : Nat, c < 256 → (BitVec.ofInt 8 (c : Int)).toNat = c := fun c hc => by
    rw [BitVec.ofInt_natCast, BitVec.toNat_ofNat]; exact Nat.mod_eq_of_lt (by omega)
  show IntKind.u8.wrap ((BitVec.ofInt 8 (a : Int) ^^^ BitVec.ofInt 8 (b : Int)).toNat : Int) = _
  rw [BitVec.toNat_xor, e a ha, e b hb, IntKind.wrap_u8]
  omega
set_option maxRecDepth 100000 in
set_option maxHeartbeats 4000000 in
theorem seven_walk (A B : Option Addr) (n1 n2 c1 c2 m : Nat) (xs ys : List Nat) (w : World) (h1 : xs.length = n1) (h2 : ys.length = n2) (l1 : n1 ≤ 300) (l2 : n2 ≤ 300) (hc1 : n1 ≤ c1) (hc2 : n2 ≤ c2) (hm1 : c1 ≤ maxLen) (hm2 : c2 ≤ maxLen) (b1 : By xs) (b2 : By ys)
    (s1 : Sl w w.heap.size A (xs.map bv)) (s2 : Sl w w.heap.size B (ys.map bv)) (k1 : m ≤ n1) (k2 : m ≤ n2) (km : (if (n2 : Int) < (n1 : Int) then (n2 : Int) else (n1 : Int)) = (m : Int)) (km' : (if n2 < n1 then (n2 : Int) else (n1 : Int)) = (m : Int)) :
    Calls Try.prog 13 #[.slice A n1 c1, .slice B n2 c2] w fun e w' => e = .returned (.bool true) ∧ Below w.heap.size w w' := by
  have hd1 : decide ((300 : Int) < n1) = false := decide_eq_false (by omega)
  have hd2 : decide ((300 : Int) < n2) = false := decide_eq_false (by omega)
  have MK := fun W => run_mk m (by omega) W
  obtain ⟨zs, hzs⟩ : ∃ zs, List.zipWith (· ^^^ ·) (xs.take m) (ys.take m) = zs := ⟨_, rfl⟩
  have hzl : zs.length = m := by rw [← hzs]; simp; omega
  obtain ⟨V2, hV2⟩ : ∃ V, ofV (xs.take m) = V := ⟨_, rfl⟩
  obtain ⟨V3, hV3⟩ : ∃ V, ofV (ys.take m) = V := ⟨_, rfl⟩
  obtain ⟨V4, hV4⟩ : ∃ V, ofV (List.replicate m 0) = V := ⟨_, rfl⟩
  have hv2 := ofV_lt (xs.take m)
  have hv3 := ofV_lt (ys.take m)
  have hv4 := ofV_lt (List.replicate m 0)
  have lw := even_law (xs.take m) (ys.take m) (by simp; omega) (by_take b1 m) (by_take b2 m)
  rw [show (xs.take m).length = m from by simp; omega, hzs, hV2, hV3, hV4] at lw
  rw [hV2] at hv2
  rw [hV3] at hv3
  rw [hV4] at hv4
  have LAW := hide lw
  have HV2 := hide hV2
  have HV3 := hide hV3
  have HV4 := hide hV4
  have HX := hide (show (xs.take m).length = m from by simp; omega)
  have HYl := hide (show (ys.take m).length = m from by simp; omega)
  have bz : By zs := by rw [← hzs]; exact zip_lt _ _ (by_take b1 m) (by_take b2 m)
  have BZ := hide bz
  clear lw hV2 hV3 hV4 bz
  have BY := hide (And.intro b1 b2)
  have H1 := hide h1
  have H2 := hide h2
  have S1 := hide s1
  have S2 := hide s2
  have HZ := hide hzl
  have HZS := hide hzs
  obtain ⟨Z0, hZ0⟩ : ∃ Z0, ((List.replicate m 0).map bv).toArray = Z0 := ⟨_, rfl⟩
  rw [hZ0] at MK
  have HZ0 := hide hZ0
  clear hZ0
  have K0 := hide (heap_alloc_new w (.cells Z0 5))
  have F0 := hide ((Below.refl w.heap.size w).alloc (Nat.le_refl _) (.cells Z0 5))
  have hz : (0 : Int) ≤ m := by omega
  obtain ⟨G, hG⟩ : ∃ G, w.heap.size = G := ⟨_, rfl⟩
  rw [hG] at K0
  have HG := hide hG
  have h63 : (c1 : Int) ≤ 9223372036854775807 := by unfold maxLen at hm1; omega
  have h64 : (c2 : Int) ≤ 9223372036854775807 := by unfold maxLen at hm2; omega
  clear h1 h2 b1 b2 s1 s2 hzl hzs hm1 hm2
  go_enter Try.func13, Try.ntmps13
  go_wp2_with fail
  have MKH := hide MK
  clear km km' MK
  go_loopg [7] m (fun gk i wr => ∃ k : Nat, gk + k = m ∧ i = .int .i64 k ∧ Hid (wr.heap[G]? = some (.cells ((laid zs m k).map bv).toArray 5 (0, 0))) ∧ Hid (Below w.heap.size w wr))
  case atStart => exact ⟨0, rfl, rfl, by simp only [laid, List.take_zero, List.nil_append, Nat.sub_zero]; rw [HZ0.out]; exact K0, F0⟩
  case round =>
    obtain ⟨k, hgk, rfl, K, F⟩ := hrel
    clear K0 F0
    by_cases hlt : k < m
    · obtain ⟨ad1, rfl, hb1, c1'⟩ := S1.out.at_ (k := k) (by rw [List.length_map, H1.out]; omega)
      obtain ⟨ad2, rfl, hb2, c2'⟩ := S2.out.at_ (k := k) (by rw [List.length_map, H2.out]; omega)
      rw [bv_at (by rw [H1.out]; omega)] at c1'
      rw [bv_at (by rw [H2.out]; omega)] at c2'
      have hx := BY.out.1 _ (List.getElem_mem (show k < xs.length by rw [H1.out]; omega))
      have hy := BY.out.2 _ (List.getElem_mem (show k < ys.length by rw [H2.out]; omega))
      have hzk := hide (show bv (zs[k]'(by rw [HZ.out]; exact hlt)) = .int .u8 (((xs[k]'(by rw [H1.out]; omega)) ^^^ (ys[k]'(by rw [H2.out]; omega)) : Nat) : Int) from by
        unfold bv; congr 2; have := HZS.out; subst this; simp)
      have st := hide (laid_step zs m k HZ.out hlt)
      rw [hzk.out] at st
      obtain ⟨x, hxx⟩ : ∃ x, xs[k]'(by rw [H1.out]; omega) = x := ⟨_, rfl⟩
      obtain ⟨y, hyy⟩ : ∃ y, ys[k]'(by rw [H2.out]; omega) = y := ⟨_, rfl⟩
      rw [hxx, hyy] at st
      rw [hxx] at c1' hx
      rw [hyy] at c2' hy
      clear hzk hxx hyy
      have c1 := (F.out.cell (p := ad1.add k) (by rw [add_block]; exact hb1)).trans c1'
      have c2 := (F.out.cell (p := ad2.add k) (by rw [add_block]; exact hb2)).trans c2'
      clear c1' c2'
      have ex := u8_xor_nat x y hx hy
      have hq : (0 : Int) ≤ k := by omega
      have hq1 : (k : Int) < m := by omega
      have hq2 : (k : Int) < n1 := by omega
      have hq3 : (k : Int) < n2 := by omega
      have cz : wr.cell? ⟨G, k, none⟩ = some (.int .u8 0) := by
        rw [row_cell K.out k]
        simp only [laid, List.map_append, List.map_take, List.map_replicate, List.getElem?_toArray]
        rw [List.getElem?_append_right (by simp; omega), List.getElem?_replicate, if_pos (by rw [List.length_take, List.length_map, HZ.out]; omega)]
        rfl
      have cf := row_free K.out k
      have hn1 : ad1.block ≠ G := by have := HG.out; omega
      have hn2 : ad2.block ≠ G := by have := HG.out; omega
      have ne1 := hide (fun u => (World.cell?_setCell_other wr ⟨G, k, none⟩ (ad1.add k) u (fun e => hn1 (by rw [← add_block ad1 k, ← e]))).trans c1)
      have ne2 := hide (fun u => (World.cell?_setCell_other wr ⟨G, k, none⟩ (ad2.add k) u (fun e => hn2 (by rw [← add_block ad2 k, ← e]))).trans c2)
      go_wp2_with fail
      go_region_held3 (fun W => W.cell? (ad1.add k) = some (.int .u8 x) ∧ W.cell? (ad2.add k) = some (.int .u8 y))
        (first | exact ⟨c1, c2⟩ | exact ⟨ne1.out _, ne2.out _⟩ | go_keep)
        (fail)
      go_wp2_with fail
      go_roundg (gk - 1)
      case measure => omega
      case rel =>
        refine ⟨k + 1, by omega, by go_num, ?_, ?_⟩
        · have h := row_set K.out k (.int .u8 ((x ^^^ y : Nat) : Int))
          rw [st.out] at h
          exact h
        · exact Below.drew (F.out.setCell (by have := HG.out; exact Nat.le_of_eq this) _)
    · obtain rfl : m = k := by omega
      have hlz : laid zs m m = zs := by unfold laid; rw [List.take_of_length_le (by rw [HZ.out]; exact Nat.le_refl _), Nat.sub_self]; simp
      rw [hlz] at K
      clear hlz
      go_wp2_with fail
      have Sx := hide (((S1.out.below F.out).more F.out.size).pre m)
      have Sy := hide (((S2.out.below F.out).more F.out.size).pre m)
      have C1 := hide (fun (W : World) (v : Value) (hP : PB wr W) (h : ∃ g, v = .slice (some ⟨g, 0, none⟩) 1 1 ∧ W.heap[g]? = some (.cells #[.slice (some ⟨G, 0, none⟩) m m] 63 (0, 0))) => show Calls Try.prog 33 #[v] W fun e w' => e = .returned (.int .u32 (((V2 ^^^ V3) ^^^ V4 : Nat) : Int)) ∧ Below W.heap.size W w' from by
        obtain ⟨g, rfl, hg⟩ := h
        have hz : Sl W W.heap.size (some ⟨G, 0, none⟩) (zs.map bv) := hP.sl (Sl.of_row K.out)
        have := of_any (some ⟨g, 0, none⟩) 1 1 [zs] W rfl (by omega) (parts_of [(some ⟨G, 0, none⟩, m, zs)] hg (by simp [HZ.out]) (by simp; exact ⟨hz, BZ.out, by rw [HZ.out]; unfold maxLen; omega⟩))
        rwa [show [zs].flatten = zs from by simp, LAW.out] at this)
      have C2 := hide (fun (W : World) (v : Value) (hP : PB wr W) (h : ∃ g, v = .slice (some ⟨g, 0, none⟩) 1 1 ∧ W.heap[g]? = some (.cells #[.slice A m c1] 63 (0, 0))) => show Calls Try.prog 33 #[v] W fun e w' => e = .returned (.int .u32 (V2 : Int)) ∧ Below W.heap.size W w' from by
        obtain ⟨g, rfl, hg⟩ := h
        have := of_any (some ⟨g, 0, none⟩) 1 1 [xs.take m] W rfl (by omega) (parts_of [(A, c1, xs.take m)] hg (by simp [HX.out]) (by simp; exact ⟨hP.sl Sx.out, by_take BY.out.1 m, by unfold maxLen; omega⟩))
        rwa [show [xs.take m].flatten = xs.take m from by simp, HV2.out] at this)
      have C3 := hide (fun (W : World) (v : Value) (hP : PB wr W) (h : ∃ g, v = .slice (some ⟨g, 0, none⟩) 1 1 ∧ W.heap[g]? = some (.cells #[.slice B m c2] 63 (0, 0))) => show Calls Try.prog 33 #[v] W fun e w' => e = .returned (.int .u32 (V3 : Int)) ∧ Below W.heap.size W w' from by
        obtain ⟨g, rfl, hg⟩ := h
        have := of_any (some ⟨g, 0, none⟩) 1 1 [ys.take m] W rfl (by omega) (parts_of [(B, c2, ys.take m)] hg (by simp [HYl.out]) (by simp; exact ⟨hP.sl Sy.out, by_take BY.out.2 m, by unfold maxLen; omega⟩))
        rwa [show [ys.take m].flatten = ys.take m from by simp, HV3.out] at this)
      have C4 := hide (fun (W : World) (v : Value) (hP : PB wr W) (h : ∃ h g, v = .slice (some ⟨h, 0, none⟩) 1 1 ∧ W.heap[h]? = some (.cells #[.slice (some ⟨g, 0, none⟩) m m] 63 (0, 0)) ∧ W.heap[g]? = some (.cells Z0 5 (0, 0))) => show Calls Try.prog 33 #[v] W fun e w' => e = .returned (.int .u32 (V4 : Int)) ∧ Below W.heap.size W w' from by
        obtain ⟨g, g0, rfl, hg, hg0⟩ := h
        rw [← HZ0.out] at hg0
        have hz : Sl W W.heap.size (some ⟨g0, 0, none⟩) ((List.replicate m 0).map bv) := Sl.of_row hg0
        have := of_any (some ⟨g, 0, none⟩) 1 1 [List.replicate m 0] W rfl (by omega) (parts_of [(some ⟨g0, 0, none⟩, m, List.replicate m 0)] hg (by simp) (by simp only [List.mem_singleton, forall_eq]; exact ⟨hz, fun b hb => by rw [(List.mem_replicate.1 hb).2]; decide, by simp; unfold maxLen; omega⟩))
        rwa [show [List.replicate m 0].flatten = List.replicate m 0 from by simp, HV4.out] at this)
      have X1 := hide (u32_xor_nat V2 V3 hv2 hv3)
      have X2 := hide (u32_xor_nat (V2 ^^^ V3) V4 (xor_lt _ _ hv2 hv3) hv4)
      have R1 := fun W => run_sl_h A n1 c1 m (by omega) W
      have R2 := fun W => run_sl_h B n2 c2 m (by omega) W
      refine Dr.regionL (by kernel_rfl) (by kernel_rfl) [.eq (.slice (some ⟨G, 0, none⟩) m m), .row #[.slice (some ⟨G, 0, none⟩) m m] 63 1 1, .eq (.int .u32 (((V2 ^^^ V3) ^^^ V4 : Nat) : Int)), .eq (.slice A n1 c1), .eq (.int .i64 m), .eq (.slice A m c1), .row #[.slice A m c1] 63 1 1, .eq (.int .u32 (V2 : Int)), .eq (.slice B n2 c2), .eq (.int .i64 m), .eq (.slice B m c2), .row #[.slice B m c2] 63 1 1, .eq (.int .u32 (V3 : Int)), .eq (.int .u32 ((V2 ^^^ V3 : Nat) : Int)), .eq (.int .i64 m), .row Z0 5 m m, zrow Z0 m, .eq (.int .u32 (V4 : Int)), .eq (.int .u32 (((V2 ^^^ V3) ^^^ V4 : Nat) : Int)), .eq (.bool true), .eq (.bool true), .eq (.bool true), .eq (.bool true), .eq (.bool true)] (PB wr) (PB.drew ⟨Below.refl _ _⟩) ?_ ?_
      · intro i o hi a W pre K hK
        have hlt : i < 24 := (Array.getElem?_eq_some_iff.1 hi).1
        match i, hi with
        | 0, hi =>
          obtain rfl := Option.some.inj (show some _ = some o from hi)
          have e6 := pre.keep 6 (v := .slice (some ⟨G, 0, none⟩) m m) (by kernel_rfl) rfl
          exact Dr.op_value hi (Dr.wanted_none rfl) (w' := W) (v := .slice (some ⟨G, 0, none⟩) m m) (by simp [go_sem, e6]) (hK _ _ rfl pre.g (Dr.Kept.refl _))
        | 1, hi =>
          obtain rfl := Option.some.inj (show some _ = some o from hi)
          obtain ⟨x41, e41, h41⟩ := pre.got 0 41 rfl (by kernel_rfl)
          obtain rfl : x41 = .slice (some ⟨G, 0, none⟩) m m := h41
          exact Dr.op_value hi (Dr.wanted_none rfl) (w' := W.alloc (.cells #[.slice (some ⟨G, 0, none⟩) m m] 63)) (v := .slice (some ⟨W.heap.size, 0, none⟩) 1 1) (by simp [go_sem, e41]) (hK _ _ ⟨_, rfl, heap_alloc_new W _⟩ (pre.g.alloc _) (Dr.Kept.alloc _ _))
        | 2, hi =>
          obtain rfl := Option.some.inj (show some _ = some o from hi)
          obtain ⟨x42, e42, h42⟩ := pre.got 1 42 rfl (by kernel_rfl)
          exact Dr.op_call hi (Dr.wanted_none rfl) (w' := W) (f := 33) (args := #[x42]) (by simp [go_sem, e42]) ((C1.out _ _ pre.g h42).mono fun e W' ⟨he, hb⟩ => ⟨_, he, hK _ _ rfl (pre.g.trans hb) (Dr.Kept.of hb)⟩)
        | 3, hi =>
          obtain rfl := Option.some.inj (show some _ = some o from hi)
          have e0 := pre.keep 0 (v := .slice A n1 c1) (by kernel_rfl) rfl
          exact Dr.op_value hi (Dr.wanted_none rfl) (w' := W) (v := .slice A n1 c1) (by simp [go_sem, e0]) (hK _ _ rfl pre.g (Dr.Kept.refl _))
        | 4, hi =>
          obtain rfl := Option.some.inj (show some _ = some o from hi)
          have e5 := pre.keep 5 (v := .int .i64 m) (by kernel_rfl) rfl
          exact Dr.op_value hi (Dr.wanted_none rfl) (w' := W) (v := .int .i64 m) (by simp [go_sem, e5]) (hK _ _ rfl pre.g (Dr.Kept.refl _))
        | 5, hi =>
          obtain rfl := Option.some.inj (show some _ = some o from hi)
          obtain ⟨x44, e44, h44⟩ := pre.got 3 44 rfl (by kernel_rfl)
          obtain rfl : x44 = .slice A n1 c1 := h44
          obtain ⟨x45, e45, h45⟩ := pre.got 4 45 rfl (by kernel_rfl)
          obtain rfl : x45 = .int .i64 m := h45
          exact Dr.op_value hi (Dr.wanted_none rfl) (w' := W) (v := .slice A m c1) (by simp [go_sem, e44, e45, R1]) (hK _ _ rfl pre.g (Dr.Kept.refl _))
        | 6, hi =>
          obtain rfl := Option.some.inj (show some _ = some o from hi)
          obtain ⟨x46, e46, h46⟩ := pre.got 5 46 rfl (by kernel_rfl)
          obtain rfl : x46 = .slice A m c1 := h46
          exact Dr.op_value hi (Dr.wanted_none rfl) (w' := W.alloc (.cells #[.slice A m c1] 63)) (v := .slice (some ⟨W.heap.size, 0, none⟩) 1 1) (by simp [go_sem, e46]) (hK _ _ ⟨_, rfl, heap_alloc_new W _⟩ (pre.g.alloc _) (Dr.Kept.alloc _ _))
        | 7, hi =>
          obtain rfl := Option.some.inj (show some _ = some o from hi)
          obtain ⟨x47, e47, h47⟩ := pre.got 6 47 rfl (by kernel_rfl)
          exact Dr.op_call hi (Dr.wanted_none rfl) (w' := W) (f := 33) (args := #[x47]) (by simp [go_sem, e47]) ((C2.out _ _ pre.g h47).mono fun e W' ⟨he, hb⟩ => ⟨_, he, hK _ _ rfl (pre.g.trans hb) (Dr.Kept.of hb)⟩)
        | 8, hi =>
          obtain rfl := Option.some.inj (show some _ = some o from hi)
          have e1 := pre.keep 1 (v := .slice B n2 c2) (by kernel_rfl) rfl
          exact Dr.op_value hi (Dr.wanted_none rfl) (w' := W) (v := .slice B n2 c2) (by simp [go_sem, e1]) (hK _ _ rfl pre.g (Dr.Kept.refl _))
        | 9, hi =>
          obtain rfl := Option.some.inj (show some _ = some o from hi)
          have e5 := pre.keep 5 (v := .int .i64 m) (by kernel_rfl) rfl
          exact Dr.op_value hi (Dr.wanted_none rfl) (w' := W) (v := .int .i64 m) (by simp [go_sem, e5]) (hK _ _ rfl pre.g (Dr.Kept.refl _))
        | 10, hi =>
          obtain rfl := Option.some.inj (show some _ = some o from hi)
          obtain ⟨x49, e49, h49⟩ := pre.got 8 49 rfl (by kernel_rfl)
          obtain rfl : x49 = .slice B n2 c2 := h49
          obtain ⟨x50, e50, h50⟩ := pre.got 9 50 rfl (by kernel_rfl)
          obtain rfl : x50 = .int .i64 m := h50
          exact Dr.op_value hi (Dr.wanted_none rfl) (w' := W) (v := .slice B m c2) (by simp [go_sem, e49, e50, R2]) (hK _ _ rfl pre.g (Dr.Kept.refl _))
        | 11, hi =>
          obtain rfl := Option.some.inj (show some _ = some o from hi)
          obtain ⟨x51, e51, h51⟩ := pre.got 10 51 rfl (by kernel_rfl)
          obtain rfl : x51 = .slice B m c2 := h51
          exact Dr.op_value hi (Dr.wanted_none rfl) (w' := W.alloc (.cells #[.slice B m c2] 63)) (v := .slice (some ⟨W.heap.size, 0, none⟩) 1 1) (by simp [go_sem, e51]) (hK _ _ ⟨_, rfl, heap_alloc_new W _⟩ (pre.g.alloc _) (Dr.Kept.alloc _ _))
        | 12, hi =>
          obtain rfl := Option.some.inj (show some _ = some o from hi)
          obtain ⟨x52, e52, h52⟩ := pre.got 11 52 rfl (by kernel_rfl)
          exact Dr.op_call hi (Dr.wanted_none rfl) (w' := W) (f := 33) (args := #[x52]) (by simp [go_sem, e52]) ((C3.out _ _ pre.g h52).mono fun e W' ⟨he, hb⟩ => ⟨_, he, hK _ _ rfl (pre.g.trans hb) (Dr.Kept.of hb)⟩)
        | 13, hi =>
          obtain rfl := Option.some.inj (show some _ = some o from hi)
          obtain ⟨x48, e48, h48⟩ := pre.got 7 48 rfl (by kernel_rfl)
          obtain rfl : x48 = .int .u32 (V2 : Int) := h48
          obtain ⟨x53, e53, h53⟩ := pre.got 12 53 rfl (by kernel_rfl)
          obtain rfl : x53 = .int .u32 (V3 : Int) := h53
          exact Dr.op_value hi (Dr.wanted_none rfl) (w' := W) (v := .int .u32 ((V2 ^^^ V3 : Nat) : Int)) (by simp [go_sem, e48, e53, X1.out]) (hK _ _ rfl pre.g (Dr.Kept.refl _))
        | 14, hi =>
          obtain rfl := Option.some.inj (show some _ = some o from hi)
          have e5 := pre.keep 5 (v := .int .i64 m) (by kernel_rfl) rfl
          exact Dr.op_value hi (Dr.wanted_none rfl) (w' := W) (v := .int .i64 m) (by simp [go_sem, e5]) (hK _ _ rfl pre.g (Dr.Kept.refl _))
        | 15, hi =>
          obtain rfl := Option.some.inj (show some _ = some o from hi)
          obtain ⟨x55, e55, h55⟩ := pre.got 14 55 rfl (by kernel_rfl)
          obtain rfl : x55 = .int .i64 m := h55
          exact Dr.op_value hi (Dr.wanted_none rfl) (w' := W.alloc (.cells Z0 5)) (v := .slice (some ⟨W.heap.size, 0, none⟩) m m) (by simp [go_sem, e55, MKH.out]) (hK _ _ ⟨_, rfl, heap_alloc_new W _⟩ (pre.g.alloc _) (Dr.Kept.alloc _ _))
        | 16, hi =>
          obtain rfl := Option.some.inj (show some _ = some o from hi)
          obtain ⟨x56, e56, h56⟩ := pre.got 15 56 rfl (by kernel_rfl)
          obtain ⟨g, rfl, hg⟩ := h56
          exact Dr.op_value hi (Dr.wanted_none rfl) (w' := W.alloc (.cells #[.slice (some ⟨g, 0, none⟩) m m] 63)) (v := .slice (some ⟨W.heap.size, 0, none⟩) 1 1) (by simp [go_sem, e56]) (hK _ _ ⟨_, g, rfl, heap_alloc_new W _, Dr.Kept.alloc _ _ _ _ hg⟩ (pre.g.alloc _) (Dr.Kept.alloc _ _))
        | 17, hi =>
          obtain rfl := Option.some.inj (show some _ = some o from hi)
          obtain ⟨x57, e57, h57⟩ := pre.got 16 57 rfl (by kernel_rfl)
          exact Dr.op_call hi (Dr.wanted_none rfl) (w' := W) (f := 33) (args := #[x57]) (by simp [go_sem, e57]) ((C4.out _ _ pre.g h57).mono fun e W' ⟨he, hb⟩ => ⟨_, he, hK _ _ rfl (pre.g.trans hb) (Dr.Kept.of hb)⟩)
        | 18, hi =>
          obtain rfl := Option.some.inj (show some _ = some o from hi)
          obtain ⟨x54, e54, h54⟩ := pre.got 13 54 rfl (by kernel_rfl)
          obtain rfl : x54 = .int .u32 ((V2 ^^^ V3 : Nat) : Int) := h54
          obtain ⟨x58, e58, h58⟩ := pre.got 17 58 rfl (by kernel_rfl)
          obtain rfl : x58 = .int .u32 (V4 : Int) := h58
          exact Dr.op_value hi (Dr.wanted_none rfl) (w' := W) (v := .int .u32 (((V2 ^^^ V3) ^^^ V4 : Nat) : Int)) (by simp [go_sem, e54, e58, X2.out]) (hK _ _ rfl pre.g (Dr.Kept.refl _))
        | 19, hi =>
          obtain rfl := Option.some.inj (show some _ = some o from hi)
          obtain ⟨x43, e43, h43⟩ := pre.got 2 43 rfl (by kernel_rfl)
          obtain rfl : x43 = .int .u32 (((V2 ^^^ V3) ^^^ V4 : Nat) : Int) := h43
          obtain ⟨x59, e59, h59⟩ := pre.got 18 59 rfl (by kernel_rfl)
          obtain rfl : x59 = .int .u32 (((V2 ^^^ V3) ^^^ V4 : Nat) : Int) := h59
          exact Dr.op_value hi (Dr.wanted_none rfl) (w' := W) (v := .bool true) (by simp [go_sem, e43, e59]) (hK _ _ rfl pre.g (Dr.Kept.refl _))
        | 20, hi =>
          obtain rfl := Option.some.inj (show some _ = some o from hi)
          obtain ⟨x60, e60, h60⟩ := pre.got 19 60 rfl (by kernel_rfl)
          obtain rfl : x60 = .bool true := h60
          exact Dr.op_value hi (Dr.wanted_none rfl) (w' := W) (v := .bool true) (by simp [go_sem, e60]) (hK _ _ rfl pre.g (Dr.Kept.refl _))
        | 21, hi =>
          obtain rfl := Option.some.inj (show some _ = some o from hi)
          obtain ⟨x61, e61, h61⟩ := pre.got 20 61 rfl (by kernel_rfl)
          obtain rfl : x61 = .bool true := h61
          exact Dr.op_call hi (Dr.wanted_yes 20 61 true rfl rfl e61) (w' := W) (f := 30) (args := #[]) (by simp [go_sem]) ((slives_any W).mono fun e W' ⟨he, hb⟩ => ⟨_, he, hK _ _ rfl (pre.g.trans hb) (Dr.Kept.of hb)⟩)
        | 22, hi =>
          obtain rfl := Option.some.inj (show some _ = some o from hi)
          obtain ⟨x61, e61, h61⟩ := pre.got 20 61 rfl (by kernel_rfl)
          obtain rfl : x61 = .bool true := h61
          obtain ⟨x62, e62, h62⟩ := pre.got 21 62 rfl (by kernel_rfl)
          obtain rfl : x62 = .bool true := h62
          exact Dr.op_value hi (Dr.wanted_none rfl) (w' := W) (v := .bool true) (by simp [go_sem, e61, e62]) (hK _ _ rfl pre.g (Dr.Kept.refl _))
        | 23, hi =>
          obtain rfl := Option.some.inj (show some _ = some o from hi)
          obtain ⟨x63, e63, h63⟩ := pre.got 22 63 rfl (by kernel_rfl)
          obtain rfl : x63 = .bool true := h63
          exact Dr.op_value hi (Dr.wanted_none rfl) (w' := W) (v := .bool true) (by simp [go_sem, e63]) (hK _ _ rfl pre.g (Dr.Kept.refl _))
        | n + 24, hi => exact absurd hlt (by omega)
      · intro a W hdf hsz hrest hdn hg
        obtain ⟨x4, e4, h4⟩ := hdn 23 _ 4 rfl rfl
        obtain rfl : x4 = .bool true := h4
        refine ‹∀ (a : Act) (w : World), Code.wp Try.prog Code.ret _ a w → _› a W ?_
        refine wp_ret ?_
        show bodyPost Try.prog Try.f13 (fun e w' => e = .returned (.bool true) ∧ Below w.heap.size w w') .ret a W
        refine bodyPost_ret (v := .bool true) (w := W) ?_ hdf ⟨rfl, F.out.trans (hg.bel.mono F.out.size)⟩
        simp [results, Try.results13, go_sem, e4]
theorem seven_long (A B : Option Addr) (n1 n2 c1 c2 : Nat) (w : World) (h : 300 < n1 ∨ 300 < n2) (m1 : n1 ≤ maxLen) (m2 : n2 ≤ maxLen) :
    Calls Try.prog 13 #[.slice A n1 c1, .slice B n2 c2] w fun e w' => e = .returned (.bool true) ∧ Below w.heap.size w w' := by
  unfold maxLen at m1 m2
  have LI := hide (slives_any w)
  obtain ⟨a1, ha1⟩ : ∃ a1, decide ((300 : Int) < n1) = a1 := ⟨_, rfl⟩
  obtain ⟨a2, ha2⟩ : ∃ a2, decide ((300 : Int) < n2) = a2 := ⟨_, rfl⟩
  have hor : a1 = true ∨ (a1 = false ∧ a2 = true) := by
    subst ha1; subst ha2
    simp only [decide_eq_true_eq, decide_eq_false_iff_not]
    omega
  clear h
  rcases hor with rfl | ⟨rfl, rfl⟩ <;>
  · go_enter Try.func13, Try.ntmps13
    go_wp2_with fail
    refine LI.out.mono ?_
    rintro e w' ⟨rfl, hb⟩
    have HB := hide hb
    clear hb
    go_wp2_with fail
    go_ret
    exact ⟨rfl, HB.out⟩
end Go.Proofs.Ytlbnikmaafccnaa
