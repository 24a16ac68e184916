/- The reference's sum: the long division, in memory. -/
import Derived.Test.YtlbnikmaafccnaaSumsCheck
import Derived.Deep.LoopGhost
namespace Go.Proofs.Ytlbnikmaafccnaa
open Go.RowKit Sm
set_option linter.unusedVariables false
theorem info4 : (Try.prog.info? 4).map (fun i => (i.zero, i.size, i.bytes)) = some (some (.bool false), 1, 1) := by kernel_rfl
def bl (L : List Bool) : List Value := L.map .bool
theorem bl_len (L : List Bool) : (bl L).length = L.length := by simp [bl]
theorem allBits_snoc (bs : List Nat) (k : Nat) (h : k < bs.length) : allBits (bs.take (k + 1)) = allBits (bs.take k) ++ Sm.bits bs[k] := by
  unfold allBits
  rw [List.take_succ_eq_append_getElem h, List.flatMap_append]
  simp only [List.flatMap_cons, List.flatMap_nil, List.append_nil]
theorem bit_fold : ∀ b : Nat, b < 256 → ∀ t : Nat, t < 8 → (Go.bits .and .u8 ((b : Int) / 2 ^ (7 - t)) 1 == 1) = (Sm.bits b).getD t false := by decide +kernel
theorem bits_len (b : Nat) : (Sm.bits b).length = 8 := rfl
theorem take_more (L : List Bool) (t : Nat) (x : Bool) (ht : t < L.length) (hx : L.getD t false = x) (K : List Bool) : bl (K ++ L.take t) ++ [.bool x] = bl (K ++ L.take (t + 1)) := by
  rw [List.take_succ_eq_append_getElem ht]
  rw [List.getD_eq_getElem?_getD, List.getElem?_eq_getElem ht] at hx
  simp only [Option.getD_some] at hx
  simp [bl, hx]
theorem numV_lt (L : List Bool) (p : Nat) : ∀ t, numV L p t < 2 ^ t
  | 0 => by simp [numV]
  | t + 1 => by
    have := numV_lt L p t
    rw [numV, Nat.pow_succ]
    split <;> omega
theorem v_step {p i t : Nat} (h : i + t = p) : Value.int .i64 ((p : Int) + 1) = .int .i64 ((i + (t + 1) : Nat) : Int) := by
  have e : (p : Int) + 1 = ((i + (t + 1) : Nat) : Int) := by omega
  rw [e]
theorem own_bit {w : World} {base g n cap j : Nat} {L : List Bool} (h : w.ownsRow base 4 1 (.slice (some ⟨g, 0, none⟩) n cap) n (bl L)) (hj : j < n) : w.cell? ⟨g, j, none⟩ = some (.bool (L.getD j false)) := by
  have hl : j < L.length := by have := h.1; simp [bl_len] at this; omega
  rw [h.cellAt j (by omega)]
  simp [bl, hl, List.getD_eq_getElem?_getD]
theorem own_set {w : World} {base g n cap : Nat} {L : List Bool} (h : w.ownsRow base 4 1 (.slice (some ⟨g, 0, none⟩) n cap) n (bl L)) (j : Nat) (y : Bool) : (w.setCell ⟨g, j, none⟩ (.bool y)).ownsRow base 4 1 (.slice (some ⟨g, 0, none⟩) n cap) n (bl (L.set j y)) ∧ w.grownBy (w.setCell ⟨g, j, none⟩ (.bool y)) (some g) := by
  have := h.stored j (.bool y)
  rw [show (bl L).set j (.bool y) = bl (L.set j y) from by simp [bl, List.map_set]] at this
  exact this
theorem own_setB {w0 w : World} {base g n cap : Nat} {L : List Bool} (h : w.ownsRow base 4 1 (.slice (some ⟨g, 0, none⟩) n cap) n (bl L)) (hb : Below base w0 w) (hs : base ≤ w.heap.size) (j : Nat) (y : Bool) : Below base w0 (w.setCell ⟨g, j, none⟩ (.bool y)) :=
  hb.grown (own_set h j y).2 hs (fun k hk => by cases hk; exact (World.ownsRow.lt h g rfl).1)
def pwA : Array Value := #[.int .i64 26, .int .i64 23, .int .i64 22, .int .i64 16, .int .i64 12, .int .i64 11, .int .i64 10, .int .i64 8, .int .i64 7, .int .i64 5, .int .i64 4, .int .i64 2, .int .i64 1, .int .i64 0]
theorem pwA_at : ∀ j, j < 14 → pwA[j]? = some (.int .i64 ((powers.getD j 0 : Nat) : Int)) := by
  intro j hj
  have : j = 0 ∨ j = 1 ∨ j = 2 ∨ j = 3 ∨ j = 4 ∨ j = 5 ∨ j = 6 ∨ j = 7 ∨ j = 8 ∨ j = 9 ∨ j = 10 ∨ j = 11 ∨ j = 12 ∨ j = 13 := by omega
  rcases this with rfl | rfl | rfl | rfl | rfl | rfl | rfl | rfl | rfl | rfl | rfl | rfl | rfl | rfl <;> rfl
theorem pw_cell {w0 w : World} {B j : Nat} (h : w0.heap[B]? = some (.cells pwA 90)) (hb : Below (B + 1) w0 w) (hj : j < 14) : w.cell? ⟨B, j, none⟩ = some (.int .i64 ((powers.getD j 0 : Nat) : Int)) := by
  rw [hb.cell (p := ⟨B, j, none⟩) (by show B < B + 1; omega), cell_of_row w0 B j pwA 90 (0, 0) h, pwA_at j hj]
set_option maxRecDepth 100000 in
set_option maxHeartbeats 8000000 in
theorem rof_any (A : Option Addr) (n c : Nat) (bs : List Nat) (w : World) (hn : bs.length = n) (hs : n ≤ 2000) (hb : By bs) (hx : Sl w w.heap.size A (bs.map bv)) :
    Calls Try.prog 34 #[.slice A n c] w fun e w' => e = .returned (.int .u32 (ofV bs)) ∧ Below w.heap.size w w' := by
  obtain ⟨i0, hi, hz0, hz1, hz2⟩ := info_parts info4
  have HLG := hide (long_of bs hb)
  obtain ⟨V, hV⟩ : ∃ V, ofV bs = V := ⟨_, rfl⟩
  rw [hV] at HLG ⊢
  clear hV
  have HN := hide hn
  have HX := hide hx
  have HY := hide hb
  clear hn hx hb
  go_enter Try.func34, Try.ntmps34
  go_wp2_with fail
  obtain ⟨Bp, hBp⟩ : ∃ Bp, w.heap.size = Bp := ⟨_, rfl⟩
  have HBp := hide hBp
  have hz0' : (w.alloc (.cells #[.int .i64 26, .int .i64 23, .int .i64 22, .int .i64 16, .int .i64 12, .int .i64 11, .int .i64 10, .int .i64 8, .int .i64 7, .int .i64 5, .int .i64 4, .int .i64 2, .int .i64 1, .int .i64 0] 90)).heap.size = Bp + 1 := by rw [alloc_size, hBp]
  have hpw := heap_alloc_new w (.cells #[.int .i64 26, .int .i64 23, .int .i64 22, .int .i64 16, .int .i64 12, .int .i64 11, .int .i64 10, .int .i64 8, .int .i64 7, .int .i64 5, .int .i64 4, .int .i64 2, .int .i64 1, .int .i64 0] 90)
  have hal := (Far.refl (fun _ => False) w).alloc (.cells #[.int .i64 26, .int .i64 23, .int .i64 22, .int .i64 16, .int .i64 12, .int .i64 11, .int .i64 10, .int .i64 8, .int .i64 7, .int .i64 5, .int .i64 4, .int .i64 2, .int .i64 1, .int .i64 0] 90)
  have hab := (Below.refl w.heap.size w).alloc (Nat.le_refl _) (.cells #[.int .i64 26, .int .i64 23, .int .i64 22, .int .i64 16, .int .i64 12, .int .i64 11, .int .i64 10, .int .i64 8, .int .i64 7, .int .i64 5, .int .i64 4, .int .i64 2, .int .i64 1, .int .i64 0] 90)
  rw [hBp] at hpw ⊢
  obtain ⟨W0, hW0⟩ : ∃ W0, w.alloc (.cells #[.int .i64 26, .int .i64 23, .int .i64 22, .int .i64 16, .int .i64 12, .int .i64 11, .int .i64 10, .int .i64 8, .int .i64 7, .int .i64 5, .int .i64 4, .int .i64 2, .int .i64 1, .int .i64 0] 90) = W0 := ⟨_, rfl⟩
  rw [hW0] at hz0' hpw hal hab ⊢
  have HAB := hide hab
  clear hab
  have HP := hide hpw
  have HA := hide hal
  have HZ := hide hz0'
  clear hW0 hz0' hpw hal hBp
  go_loopg [4, 5] n (fun gk v i wr => ∃ k : Nat, gk + k = n ∧ i = .int .i64 k ∧ Hid (wr.ownsRow (Bp + 1) 4 1 v (allBits (bs.take k)).length (bl (allBits (bs.take k)))) ∧ Hid (Below (Bp + 1) W0 wr))
  case atStart => exact ⟨0, rfl, rfl, World.ownsRow_nil _ _ _ _, Below.refl _ _⟩
  case round =>
    obtain ⟨k, hgk, rfl, HO, HB⟩ := hrel
    obtain ⟨go, hgo⟩ : ∃ x, x = gk := ⟨_, rfl⟩
    by_cases hlt : k < n
    · have hkl : k < bs.length := by rw [HN.out]; exact hlt
      obtain ⟨ad, rfl, hbl, hc⟩ := HX.out.at_ (k := k) (by simpa using hkl)
      rw [bv_at hkl] at hc
      have hbk := HY.out _ (List.getElem_mem hkl)
      have HL := hide (allBits_snoc bs k hkl)
      obtain ⟨b, hbb⟩ : ∃ b, bs[k] = b := ⟨_, rfl⟩
      rw [hbb] at hc hbk HL
      clear hbb
      have HCC := hide (fun (W : World) (hb : Below (Bp + 1) W0 W) => (hb.cell (p := ad.add k) (by rw [add_block]; have := HBp.out; omega)).trans (cell_far HA.out hc (fun h => h)))
      have hl8 := hide (show (allBits (bs.take k)).length = 8 * k from by rw [allBits_len, List.length_take, HN.out]; omega)
      clear hc
      have hdk : decide ((k : Int) < n) = true := decide_eq_true (by omega)
      go_wp2_with fail
      go_loopg [4, 6] 8 (fun gk v j wr => ∃ t : Nat, gk + t = 8 ∧ j = .int .i64 (7 - t) ∧ Hid (wr.ownsRow (Bp + 1) 4 1 v (8 * k + t) (bl (allBits (bs.take k) ++ (Sm.bits b).take t))) ∧ Hid (Below (Bp + 1) W0 wr))
      case atStart => exact ⟨0, rfl, rfl, by have := HO.out; rw [hl8.out] at this; simpa [Hid] using this, HB⟩
      case round =>
        obtain ⟨t, hgt, rfl, HO2, HB2⟩ := hrel
        clear HO HB
        obtain ⟨w2, hw2⟩ : ∃ x, x = wr := ⟨_, rfl⟩
        subst hw2
        by_cases hlt2 : t < 8
        · have cb := HCC.out w2 HB2.out
          have hz : (0 : Int) ≤ k := by omega
          have hz' : (k : Int) < n := by omega
          have hy : (0 : Int) ≤ 7 - (t : Int) := by omega
          have hy' : 7 - (t : Int) < 8 := by omega
          have hsz : Bp + 1 ≤ w2.heap.size := by have := HB2.out.size; rw [HZ.out] at this; exact this
          obtain ⟨x, hxx⟩ : ∃ x, (Sm.bits b).getD t false = x := ⟨_, rfl⟩
          have hfx := bit_fold b hbk t hlt2
          rw [hxx] at hfx
          have HXX := hide hxx
          clear hxx
          go_wp2_with (at_builtin; refine wpList_append_sl _ rfl _ _ 23 rfl (Bp + 1) 4 i0 (.bool false) 1 1 Try.underlying23 hi hz0 hz1 hz2 rfl (by decide) _ (8 * k + t) (bl (allBits (bs.take k) ++ (Sm.bits b).take t)) rfl (HO2.out.alloc _) _ _ 1 1 [.bool x] rfl rfl (Sl.one (cell_new' _ #[.bool x] 4 (0, 0) 0 _ (by simp))) (by simp [Value.oneCell']) (by unfold maxLen; omega) (by omega) (by simp; omega) ?_; intro v1 w1 hown1 hg1 hat1)
          · have KO := hide hown1
            have KB := hide ((HB2.out.alloc hsz (.cells #[.bool x] 4)).grown hg1 (by simp; omega) (fun g hg => (World.ownsRow.lt HO2.out g hg).1))
            clear hown1 hg1 hat1
            go_roundg (gk - 1)
            case measure => omega
            case rel =>
              refine ⟨t + 1, by omega, by congr 1; omega, ?_, KB.out⟩
              have := KO.out
              rw [take_more _ _ _ (by rw [bits_len]; exact hlt2) HXX.out] at this
              exact this
          all_goals (trace_state; sorry)
        · obtain rfl : t = 8 := by omega
          have KO := hide (HO2.out)
          clear HO2
          go_wp2_with fail
          go_roundg (go - 1)
          case measure => omega
          case rel =>
            refine ⟨k + 1, by omega, rfl, ?_, HB2⟩
            have := KO.out
            rw [List.take_of_length_le (l := Sm.bits b) (by rw [bits_len]; exact Nat.le_refl _), ← HL.out] at this
            have e : (allBits (bs.take (k + 1))).length = 8 * k + 8 := by rw [HL.out, List.length_append, hl8.out, bits_len]
            rw [e]
            exact this
    · obtain rfl : k = n := by omega
      have hMl : (allBits (bs.take k)).length = 8 * k := by rw [allBits_len, List.length_take, HN.out, Nat.min_self]
      have hMt : allBits (bs.take k) = allBits bs := by rw [List.take_of_length_le (by rw [HN.out]; exact Nat.le_refl _)]
      rw [hMl, hMt] at HO
      clear hMl hMt
      go_wp2_with fail
      go_loopg [4, 7] 32 (fun gk v i wr => ∃ t : Nat, gk + t = 32 ∧ i = .int .i64 t ∧ Hid (wr.ownsRow (Bp + 1) 4 1 v (8 * k + t) (bl (allBits bs ++ List.replicate t false))) ∧ Hid (Below (Bp + 1) W0 wr))
      case atStart => exact ⟨0, rfl, rfl, by have := HO.out; simpa [Hid] using this, HB⟩
      case round =>
        obtain ⟨t, hgt, rfl, HO2, HB2⟩ := hrel
        clear HO HB
        obtain ⟨w2, hw2⟩ : ∃ x, x = wr := ⟨_, rfl⟩
        subst hw2
        have hsz : Bp + 1 ≤ w2.heap.size := by have := HB2.out.size; rw [HZ.out] at this; exact this
        by_cases hlt2 : t < 32
        · have hy : (t : Int) < 32 := by omega
          go_wp2_with (at_builtin; refine wpList_append_sl _ rfl _ _ 23 rfl (Bp + 1) 4 i0 (.bool false) 1 1 Try.underlying23 hi hz0 hz1 hz2 rfl (by decide) _ (8 * k + t) (bl (allBits bs ++ List.replicate t false)) rfl (HO2.out.alloc _) _ _ 1 1 [.bool false] rfl rfl (Sl.one (cell_new' _ #[.bool false] 4 (0, 0) 0 _ (by simp))) (by simp [Value.oneCell']) (by unfold maxLen; omega) (by omega) (by simp; omega) ?_; intro v1 w1 hown1 hg1 hat1)
          have KO := hide hown1
          have KB := hide ((HB2.out.alloc hsz (.cells #[.bool false] 4)).grown hg1 (by simp; omega) (fun g hg => (World.ownsRow.lt HO2.out g hg).1))
          clear hown1 hg1 hat1
          go_roundg (gk - 1)
          case measure => omega
          case rel =>
            refine ⟨t + 1, by omega, rfl, ?_, KB.out⟩
            have := KO.out
            rw [show bl (allBits bs ++ List.replicate t false) ++ [.bool false] = bl (allBits bs ++ List.replicate (t + 1) false) from by rw [List.replicate_succ']; simp [bl]] at this
            exact this
        · obtain rfl : t = 32 := by omega
          obtain ⟨N, hN⟩ : ∃ N, 8 * k + 32 = N := ⟨_, rfl⟩
          rw [hN] at HO2
          have HNN := hide hN
          clear hgt hN
          obtain ⟨g, cap, rfl, hgb, hgs⟩ := World.ownsRow.form HO2.out (by have := HNN.out; omega)
          have HM : Hid (w2.ownsRow (Bp + 1) 4 1 (.slice (some ⟨g, 0, none⟩) N cap) N (bl (inv (msg bs) 0))) := HO2
          clear HO2
          go_wp2_with fail
          go_loopg [8] 32 (fun gk i wr => ∃ t : Nat, gk + t = 32 ∧ i = .int .i64 t ∧ Hid (wr.ownsRow (Bp + 1) 4 1 (.slice (some ⟨g, 0, none⟩) N cap) N (bl (inv (msg bs) t))) ∧ Hid (Below (Bp + 1) W0 wr))
          case atStart => exact ⟨0, rfl, rfl, HM, HB2⟩
          case round =>
            obtain ⟨t, hgt, rfl, HO3, HB3⟩ := hrel
            clear HM HB2 hsz
            obtain ⟨w3, hw3⟩ : ∃ x, x = wr := ⟨_, rfl⟩
            subst hw3
            have hsz : Bp + 1 ≤ w3.heap.size := by have := HB3.out.size; rw [HZ.out] at this; exact this
            by_cases hlt2 : t < 32
            · have hy : (t : Int) < 32 := by omega
              have hyn : (t : Int) < N := by have := HNN.out; omega
              have hyz : (0 : Int) ≤ t := by omega
              have c1 := own_bit HO3.out (j := t) (by have := HNN.out; omega)
              have f1 := World.ownsRow.frozenAt HO3.out t
              obtain ⟨y, hyy⟩ : ∃ y, (inv (msg bs) t).getD t false = y := ⟨_, rfl⟩
              rw [hyy] at c1
              have HYY := hide (show inv (msg bs) (t + 1) = (inv (msg bs) t).set t (!y) from by rw [← hyy]; rfl)
              clear hyy
              have KO := hide (own_set HO3.out t (!y)).1
              have KB := hide (own_setB HO3.out HB3.out hsz t (!y))
              go_wp2_with fail
              go_roundg (gk - 1)
              case measure => omega
              case rel =>
                refine ⟨t + 1, by omega, rfl, ?_, KB.out⟩
                rw [HYY.out]
                exact KO
            · obtain rfl : t = 32 := by omega
              clear hgt
              obtain ⟨M0, hM0⟩ : ∃ M0, inv (msg bs) 32 = M0 := ⟨_, rfl⟩
              rw [hM0] at HO3
              have HMz := hide hM0
              clear hM0
              have HM : Hid (w3.ownsRow (Bp + 1) 4 1 (.slice (some ⟨g, 0, none⟩) N cap) N (bl (longD M0 0))) := HO3
              clear HO3
              go_wp2_with fail
              go_loopg [9] (8 * k) (fun gk i wr => ∃ t : Nat, gk + t = 8 * k ∧ i = .int .i64 t ∧ Hid (wr.ownsRow (Bp + 1) 4 1 (.slice (some ⟨g, 0, none⟩) N cap) N (bl (longD M0 t))) ∧ Hid (Below (Bp + 1) W0 wr))
              case atStart => exact ⟨0, rfl, rfl, HM, HB3⟩
              case round =>
                obtain ⟨i, hgt, rfl, HO4, HB4⟩ := hrel
                clear HM HB3 hsz
                obtain ⟨go, hgo⟩ : ∃ x, x = gk := ⟨_, rfl⟩
                obtain ⟨w4, hw4⟩ : ∃ x, x = wr := ⟨_, rfl⟩
                subst hw4
                have hsz : Bp + 1 ≤ w4.heap.size := by have := HB4.out.size; rw [HZ.out] at this; exact this
                have hNN := HNN.out
                by_cases hlt4 : i < 8 * k
                · have hy : (i : Int) + 32 < N := by omega
                  have hyn : (i : Int) < N := by omega
                  have hyz : (0 : Int) ≤ i := by omega
                  have c1 := own_bit HO4.out (j := i) (by omega)
                  have f1 := World.ownsRow.frozenAt HO4.out i
                  obtain ⟨L, hL⟩ : ∃ L, longD M0 i = L := ⟨_, rfl⟩
                  have HLd := hide (show longD M0 (i + 1) = stepL L i from by rw [← hL]; rfl)
                  rw [hL] at c1 HO4
                  clear hL hNN
                  cases hyy : L.getD i false
                  · rw [hyy] at c1
                    have HLe := hide (show longD M0 (i + 1) = L from by rw [HLd.out, stepL, hyy]; rfl)
                    clear hyy
                    go_wp2_with fail
                    go_roundg (go - 1)
                    case measure => omega
                    case rel =>
                      refine ⟨i + 1, by omega, rfl, ?_, HB4⟩
                      rw [HLe.out]
                      exact HO4
                  · rw [hyy] at c1
                    have HLe := hide (show longD M0 (i + 1) = flips (L.set i false) i 14 from by rw [HLd.out, stepL, hyy]; rfl)
                    clear hyy
                    have KO := hide (own_set HO4.out i false).1
                    have KB := hide (own_setB HO4.out HB4.out hsz i false)
                    go_wp2_with fail
                    go_loopg [10] 14 (fun gk j wr => ∃ t : Nat, gk + t = 14 ∧ j = .int .i64 t ∧ Hid (wr.ownsRow (Bp + 1) 4 1 (.slice (some ⟨g, 0, none⟩) N cap) N (bl (flips (L.set i false) i t))) ∧ Hid (Below (Bp + 1) W0 wr))
                    case atStart => exact ⟨0, rfl, rfl, KO, KB⟩
                    case round =>
                      obtain ⟨t, hgt, rfl, HO5, HB5⟩ := hrel
                      clear KO KB hsz HO4 HB4 c1 f1
                      obtain ⟨w5, hw5⟩ : ∃ x, x = wr := ⟨_, rfl⟩
                      subst hw5
                      have hsz : Bp + 1 ≤ w5.heap.size := by have := HB5.out.size; rw [HZ.out] at this; exact this
                      by_cases hlt5 : t < 14
                      · have hj : (t : Int) < 14 := by omega
                        have hjz : (0 : Int) ≤ t := by omega
                        have cp := pw_cell HP.out HB5.out hlt5
                        have hpl := powers_le t
                        obtain ⟨p, hp⟩ : ∃ p, powers.getD t 0 = p := ⟨_, rfl⟩
                        have HFl := hide (show flips (L.set i false) i (t + 1) = flip (flips (L.set i false) i t) (i + 32 - p) from by rw [← hp]; rfl)
                        rw [hp] at cp hpl
                        clear hp
                        obtain ⟨q, hq⟩ : ∃ q, i + 32 - p = q := ⟨_, rfl⟩
                        rw [hq] at HFl
                        have hqe : (i : Int) + 32 - (p : Int) = q := by omega
                        have hqn : (q : Int) < N := by have := HNN.out; omega
                        have hqz : (0 : Int) ≤ q := by omega
                        clear hq
                        obtain ⟨F, hF⟩ : ∃ F, flips (L.set i false) i t = F := ⟨_, rfl⟩
                        rw [hF] at HO5 HFl
                        clear hF
                        have c1 := own_bit HO5.out (j := q) (by omega)
                        have f1 := World.ownsRow.frozenAt HO5.out q
                        obtain ⟨y, hyy⟩ : ∃ y, F.getD q false = y := ⟨_, rfl⟩
                        have HYY := hide (show flip F q = F.set q (!y) from by rw [← hyy]; rfl)
                        rw [hyy] at c1
                        clear hyy
                        have KO := hide (own_set HO5.out q (!y)).1
                        have KB := hide (own_setB HO5.out HB5.out hsz q (!y))
                        go_wp2_with fail
                        go_roundg (gk - 1)
                        case measure => omega
                        case rel =>
                          refine ⟨t + 1, by omega, rfl, ?_, KB⟩
                          rw [HFl.out, HYY.out]
                          exact KO
                      · obtain rfl : t = 14 := by omega
                        rw [← HLe.out] at HO5
                        clear hgt
                        go_wp2_with fail
                        go_roundg (go - 1)
                        case measure => omega
                        case rel => exact ⟨i + 1, by omega, rfl, HO5, HB5⟩
                · have hiN := hide (show i = 8 * k from by omega)
                  have hd : decide ((i : Int) + 32 < N) = false := decide_eq_false (by omega)
                  have hNi : (N : Int) - 32 = i := by omega
                  have hib : (i : Int) ≤ 16000 := by omega
                  have hNb : (N : Int) ≤ 16032 := by omega
                  have hNc : (32 : Int) ≤ N := by omega
                  have hN3 := hide (show N = i + 32 from by omega)
                  have HLO := hide (show numV (longD M0 i) i 32 = V from by rw [← HMz.out, hiN.out, ← HN.out]; exact HLG.out)
                  clear hgt hlt4 hNN
                  obtain ⟨L, hL⟩ : ∃ L, longD M0 i = L := ⟨_, rfl⟩
                  rw [hL] at HO4 HLO
                  clear hL
                  go_wp2_with fail
                  go_loopg [12, 13] 32 (fun gk s a wr => ∃ t : Nat, gk + t = 32 ∧ s = .int .u32 ((numV L i t : Nat) : Int) ∧ a = .int .i64 ((i + t : Nat) : Int) ∧ wr = w4)
                  case atStart => exact ⟨0, rfl, rfl, rfl, rfl⟩
                  case round =>
                    obtain ⟨t, hgt, rfl, ha, hw⟩ := hrel
                    obtain ⟨p, hp⟩ : ∃ p, i + t = p := ⟨_, rfl⟩
                    rw [hp] at ha
                    subst ha
                    subst hw
                    have hN4 := hN3.out
                    clear hd hNi
                    by_cases hlt7 : t < 32
                    · have c1 := own_bit HO4.out (j := p) (by omega)
                      have f1 := World.ownsRow.frozenAt HO4.out p
                      have hS := numV_lt L i t
                      have hS2 : numV L i t < 2147483648 := Nat.lt_of_lt_of_le hS (Nat.le_trans (Nat.pow_le_pow_right (by decide) (show t ≤ 31 by omega)) (by decide))
                      have HS1 := hide (show numV L i (t + 1) = 2 * numV L i t + (if L.getD p false then 0 else 1) from by rw [← hp]; rfl)
                      obtain ⟨S, hSS⟩ : ∃ S, numV L i t = S := ⟨_, rfl⟩
                      rw [hSS] at hS2 HS1 ⊢
                      have hpn : (p : Int) < N := by omega
                      have hpz : (0 : Int) ≤ p := by omega
                      have hpb : (p : Int) ≤ 16032 := by omega
                      have hsn : (S : Int) < 2147483648 := by omega
                      have hsz2 : (0 : Int) ≤ S := by omega
                      clear hS hSS hS2 hN4
                      have HP7 := hide hp
                      clear hp
                      cases hyy : L.getD p false
                      · rw [hyy] at c1 HS1
                        clear hyy
                        go_wp2_with fail
                        go_roundg (gk - 1)
                        case measure => omega
                        case rel => exact ⟨t + 1, by omega, by rw [HS1.out]; simp, v_step HP7.out, rfl⟩
                      · rw [hyy] at c1 HS1
                        clear hyy
                        go_wp2_with fail
                        go_roundg (gk - 1)
                        case measure => omega
                        case rel => exact ⟨t + 1, by omega, by rw [HS1.out]; simp, v_step HP7.out, rfl⟩
                    · obtain rfl : t = 32 := by omega
                      have hd : decide (p < N) = false := decide_eq_false (by omega)
                      have hd2 : ¬ p < N := by omega
                      rw [HLO.out]
                      clear hgt hN4 hp
                      have HE := hide (show Below w.heap.size w wr from HAB.out.trans (HB4.out.mono (by have := HBp.out; omega)))
                      clear HLO HO4 HB4 HP HLG hib hNb hNc
                      go_wp2_with fail
                      go_ret
                      exact ⟨rfl, HE.out⟩
