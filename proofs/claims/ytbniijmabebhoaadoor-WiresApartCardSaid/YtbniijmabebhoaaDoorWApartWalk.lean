/- The walk of WiresApart: what one link is given changes nothing of what is here of others; nothing that was there has turned. -/
import Derived.Test.YtbniijmabebhoaaDoorWPlain

import Derived.Deep.LoopGhost
namespace Go.Proofs.YtbniijmabebhoaaDoor
open Go.RowKit
set_option linter.unusedVariables false
namespace Wr
open Mp
set_option maxRecDepth 100000 in
set_option maxHeartbeats 8000000 in
theorem apart_walk (nb k0 k1 x0 x1 x2 : Int) (w : World) (h0 : 0 ≤ nb) (h0' : nb ≤ 255) (h1 : 0 ≤ k0) (h1' : k0 ≤ 255) (h2 : 0 ≤ k1) (h2' : k1 ≤ 255) (hs : 0 < w.heap.size) (sg : Signs w) :
    Calls Tryd.prog 14 #[.int .u8 nb, .agg #[.int .u8 k0, .int .u8 k1], .agg #[.int .i64 x0, .int .i64 x1, .int .i64 x2]] w fun e w' => e = .returned (.bool true) ∧ Below w.heap.size w w' := by
  obtain ⟨n, hn⟩ : ∃ n : Nat, 4 + nb % 13 = (n : Int) := ⟨(4 + nb % 13).toNat, by omega⟩
  have hn4 : 4 ≤ n := by omega
  have hn16 : n ≤ 16 := by omega
  have HN := hide (fun W => nodes_any nb W h0 h0')
  rw [hn] at HN
  obtain ⟨a, ha, ha'⟩ : ∃ a : Nat, k0 % (4 * (n : Int)) = (a : Int) ∧ a < 4 * n := ⟨(k0 % (4 * (n : Int))).toNat, by have := Int.emod_nonneg k0 (show 4 * (n : Int) ≠ 0 by omega); omega, by have := Int.emod_lt_of_pos k0 (show 0 < 4 * (n : Int) by omega); have := Int.emod_nonneg k0 (show 4 * (n : Int) ≠ 0 by omega); omega⟩
  obtain ⟨b, hb, hb'⟩ : ∃ a : Nat, k1 % (4 * (n : Int)) = (a : Int) ∧ a < 4 * n := ⟨(k1 % (4 * (n : Int))).toNat, by have := Int.emod_nonneg k1 (show 4 * (n : Int) ≠ 0 by omega); omega, by have := Int.emod_lt_of_pos k1 (show 0 < 4 * (n : Int) by omega); have := Int.emod_nonneg k1 (show 4 * (n : Int) ≠ 0 by omega); omega⟩
  obtain ⟨W1, hW1⟩ : ∃ W1, w.alloc (.cells #[.int .u8 k0, .int .u8 k1] 73) = W1 := ⟨_, rfl⟩
  obtain ⟨W2, hW2⟩ : ∃ W2, W1.alloc (.cells #[.int .i64 x0, .int .i64 x1, .int .i64 x2] 61) = W2 := ⟨_, rfl⟩
  have z1 : W1.heap.size = w.heap.size + 1 := by rw [← hW1]; exact alloc_size _ _
  have hb1 : W2.heap[w.heap.size]? = some (.cells #[.int .u8 k0, .int .u8 k1] 73 (0, 0)) := by
    rw [← hW2, ← hW1]
    exact (Below.heap_alloc _ _ _ (by rw [alloc_size]; omega)).trans (heap_alloc_new w _)
  have hb2 : W2.heap[w.heap.size + 1]? = some (.cells #[.int .i64 x0, .int .i64 x1, .int .i64 x2] 61 (0, 0)) := by
    rw [← hW2, ← z1]
    exact heap_alloc_new W1 _
  have BL := hide (show Below w.heap.size w W2 from by
    rw [← hW2, ← hW1]
    exact ((Below.refl _ w).alloc (Nat.le_refl _) _).alloc (by rw [alloc_size]; omega) _)
  have sg2 : Signs W2 := sg.below BL.out hs
  have hs2 : 0 < W2.heap.size := Nat.lt_of_lt_of_le hs BL.out.size
  have u0 := row_cell hb1 0
  have u1 := row_cell hb1 1
  have CX := hide (fun (W : World) (i : Nat) (h : Below W2.heap.size W2 W) => (h.cell (p := ⟨w.heap.size + 1, i, none⟩) (lt_of_blk hb2)).trans (row_cell hb2 i))
  have HS := hide (And.intro hs2 sg2)
  clear hb1 hb2 hs sg hs2 sg2 hn
  go_enter Tryd.func14, Tryd.ntmps14
  go_wp2_with fail
  clear hW1 hW2 z1
  refine (HN.out _).mono ?_
  rintro e w' ⟨rfl, rfl⟩
  have hn0 : (0 : Int) < 4 * (n : Int) := by omega
  go_wp2_with fail
  clear u0 u1
  refine (ws_new n W2 W2 hn4 hn16 HS.out.1 HS.out.2 (Below.refl _ _)).mono ?_
  rintro e w1 ⟨A, rfl, s1⟩
  have S1 := hide s1
  have c0 := CX.out _ 0 s1.bel
  clear s1
  by_cases hab : a = b
  · have e1 : ((a : Int) == (b : Int)) = true := by simp [hab]
    go_wp2_with fail
    refine (wlives_any W2 w1 HS.out.1 HS.out.2 S1.out.bel).mono ?_
    rintro e w3 ⟨rfl, b3⟩
    have B3 := hide (BL.out.trans (b3.mono BL.out.size))
    clear b3
    go_wp2_with fail
    go_ret
    exact ⟨rfl, B3.out⟩
  · have e1 : ((a : Int) == (b : Int)) = false := by simp; omega
    have HAB := hide hab
    clear hab
    go_wp2_with fail
    refine (ws_give S1.out a x0 ((inB_iff n a).2 (by omega))).mono ?_
    rintro e w2 ⟨rfl, s2⟩
    have S2 := hide s2
    have c1 := CX.out _ 1 s2.bel
    clear s2 S1 c0
    go_wp2_with fail
    refine (ws_give S2.out b x1 ((inB_iff n b).2 (by omega))).mono ?_
    rintro e w3 ⟨rfl, s3⟩
    have S3 := hide s3
    have c2 := CX.out _ 2 s3.bel
    clear s3 S2 c1
    go_wp2_with fail
    refine (ws_give S3.out a x2 ((inB_iff n a).2 (by omega))).mono ?_
    rintro e w4 ⟨rfl, s4⟩
    have S4 := hide s4
    clear s4 S3 c2
    go_wp2_with fail
    refine (ws_take S4.out b ((inB_iff n b).2 (by omega))).mono ?_
    rintro e w5 ⟨rfl, s5⟩
    have S5 := hide s5
    clear s5
    obtain ⟨g, hg⟩ : ∃ g, del (b : Int) (upd (a : Int) x2 (upd (b : Int) x1 (upd (a : Int) x0 []))) = g := ⟨_, rfl⟩
    have hget : ∀ j : Int, get g j = if j = a then some x2 else none := by
      intro j
      rw [← hg, get_del _ _ S4.out.wi.nodup, get_upd, get_upd, get_upd, get_nil]
      have := HAB.out
      by_cases hja : j = a
      · subst hja
        rw [if_neg (by omega)]
        simp
      · simp only [if_neg hja]
        by_cases hjb : j = b <;> simp [hjb]
    rw [hg] at S5
    have ga : get g (a : Int) = some x2 := by rw [hget, if_pos rfl]
    have gb : get g (b : Int) = none := by rw [hget, if_neg (by have := HAB.out; omega)]
    have HG := hide hget
    have T1 := hide (ws_given S5.out a)
    have T2 := hide (ws_given S5.out b)
    rw [ga] at T1
    rw [gb] at T2
    have c2 := CX.out _ 2 S5.out.bel
    have G1 := hide (give_no S5.out.wi (4 * (n : Int)) 1 (by unfold inB; rw [decide_eq_false (by omega)]))
    have G2 := hide (take_no S5.out.wi (-1) (by unfold inB; rw [decide_eq_false (by omega)]))
    clear S4 hg ga gb hget
    go_wp2_with fail
    refine T1.out.mono ?_
    rintro e w' ⟨rfl, rfl⟩
    go_wp2_with fail
    refine T2.out.mono ?_
    rintro e w' ⟨rfl, rfl⟩
    go_wp2_with fail
    refine G1.out.mono ?_
    rintro e w' ⟨rfl, rfl⟩
    go_wp2_with fail
    refine G2.out.mono ?_
    rintro e w' ⟨rfl, rfl⟩
    go_wp2_with fail
    clear T1 T2 G1 G2 c2
    go_loopg [16] 3 (fun gk i wr => ∃ (t : Nat) (H : List (Int → Option Int)) (g : List (Int × Int)), gk + t = 3 ∧ i = .int .i64 ((t : Int) + 1) ∧ Hid (H.length = t) ∧ Hid (Ws W2 wr A n H g) ∧ Hid (∀ j : Int, get g j = if t = 0 ∧ j = a then some x2 else none) ∧ Hid (∀ (i : Nat) (j : Int), past H i j = if i + 1 = t ∧ j = a then some x2 else none))
    case atStart => exact ⟨0, [], g, rfl, rfl, rfl, S5, fun j => by rw [HG.out]; simp, fun i j => by rw [past_nil]; simp⟩
    case round =>
      obtain ⟨t, H, g', hgk, rfl, HL, S, HG', HP⟩ := hrel
      clear S5 HG
      obtain ⟨go, hgo⟩ : ∃ x, x = gk := ⟨_, rfl⟩
      obtain ⟨wo, hwo⟩ : ∃ x, x = wr := ⟨_, rfl⟩
      subst hwo
      by_cases hlt : t < 3
      · have hq : ((t : Int) + 1 ≤ 3) := by omega
        have hq' : decide ((t : Int) + 1 ≤ 3) = true := decide_eq_true (by omega)
        go_wp2_with fail
        refine (ws_end S.out (by have := HL.out; omega)).mono ?_
        rintro e w6 ⟨rfl, s6⟩
        have S6 := hide s6
        clear s6
        obtain ⟨H', hH'⟩ : ∃ H', (fun j => get g' j) :: H = H' := ⟨_, rfl⟩
        have HL' := hide (show H'.length = t + 1 from by rw [← hH', List.length_cons, HL.out])
        have HP' := hide (show ∀ (i : Nat) (j : Int), past H' i j = if i + 1 = t + 1 ∧ j = a then some x2 else none from by
          intro i j
          rw [← hH']
          cases i with
          | zero => rw [past_zero, HG'.out]; by_cases h : t = 0 <;> simp [h]
          | succ i => rw [past_succ, HP.out]; simp)
        rw [hH'] at S6
        clear hH' HL S HG' HP
        go_wp2_with fail
        go_loopg [17] (4 * n) (fun gk i wr => ∃ j : Nat, gk + j = 4 * n ∧ i = .int .i64 j ∧ Hid (Ws W2 wr A n H' []))
        case atStart => exact ⟨0, by omega, rfl, S6⟩
        case round =>
          obtain ⟨j, hgj, rfl, S⟩ := hrel
          clear S6
          by_cases hlj : j < 4 * n
          · have hj0 : (0 : Int) ≤ j := by omega
            have hj1 : (j : Int) < 4 * n := by omega
            have EN := hide (ends_good n j wr (by simp [Rg.endsB]; omega) (HS.out.2.below S.out.bel HS.out.1))
            have HE := hide (fun W (h : Ws W2 W A n H' []) => ws_here h HS.out.1 HS.out.2 ((j : Int) % 4 / 2) (Rg.step n ((j : Int) % 4 / 2) ((j : Int) / 4) ((j : Int) % 2 + 1)) ((j : Int) % 2 + 1) (by omega))
            rw [here_end n H' j hn4 hn16 hlj, HP'.out] at HE
            obtain ⟨fr, hfr⟩ : ∃ x, (j : Int) / 4 = x := ⟨_, rfl⟩
            obtain ⟨dd, hdd⟩ : ∃ x, (j : Int) % 4 / 2 = x := ⟨_, rfl⟩
            obtain ⟨hp, hhp⟩ : ∃ x, (j : Int) % 2 + 1 = x := ⟨_, rfl⟩
            rw [hfr, hdd, hhp] at EN HE
            obtain ⟨to, hto⟩ : ∃ x, Rg.step n dd fr hp = x := ⟨_, rfl⟩
            rw [hto] at EN HE
            have c2 := fun W (h : Ws W2 W A n H' []) => CX.out W 2 h.bel
            have C2 := hide c2
            clear c2 hfr hdd hto
            by_cases hP : j % 2 + 1 = t + 1 ∧ (j : Int) = a
            · have b1 : ((j : Int) == (a : Int)) = true := by simp; omega
              have b2 : (((t : Int) + 1) == hp) = true := by simp; omega
              rw [if_pos hP] at HE
              clear hP hhp
              go_wp2_with fail
              refine EN.out.mono ?_
              rintro e w7 ⟨rfl, m, rfl⟩
              have S7 := hide (S.out.drewN m)
              clear EN
              go_wp2_with fail
              refine (HE.out _ S7.out).mono ?_
              rintro e w8 ⟨rfl, s8⟩
              have S8 := hide s8
              have c2 := C2.out _ s8
              clear s8 HE
              go_wp2_with fail
              go_roundg (gk - 1)
              case measure => omega
              case rel => exact ⟨j + 1, by omega, by go_num, S8⟩
            · have b1 : ((j : Int) == (a : Int)) = false ∨ (((j : Int) == (a : Int)) = true ∧ (((t : Int) + 1) == hp) = false) := by
                by_cases hja : (j : Int) = a
                · exact .inr ⟨by simp [hja], by simp; omega⟩
                · exact .inl (by simp [hja])
              rw [if_neg hP] at HE
              clear hP hhp
              rcases b1 with b1 | ⟨b1, b2⟩
              all_goals
                go_wp2_with fail
                refine EN.out.mono ?_
                rintro e w7 ⟨rfl, m, rfl⟩
                have S7 := hide (S.out.drewN m)
                clear EN
                go_wp2_with fail
                refine (HE.out _ S7.out).mono ?_
                rintro e w8 ⟨rfl, s8⟩
                have S8 := hide s8
                have c2 := C2.out _ s8
                clear s8 HE
                go_wp2_with fail
                go_roundg (gk - 1)
                case measure => omega
                case rel => exact ⟨j + 1, by omega, by go_num, S8⟩
          · obtain rfl : j = 4 * n := by omega
            go_wp2_with fail
            go_roundg (go - 1)
            case measure => omega
            case rel => exact ⟨t + 1, H', [], by omega, by go_num, HL', S, fun j => by rw [get_nil]; simp, HP'.out⟩
      · obtain rfl : t = 3 := by omega
        go_wp2_with fail
        refine (wlives_any W2 wo HS.out.1 HS.out.2 S.out.bel).mono ?_
        rintro e w7 ⟨rfl, b7⟩
        have B7 := hide (BL.out.trans (b7.mono BL.out.size))
        clear b7
        go_wp2_with fail
        go_ret
        exact ⟨rfl, B7.out⟩
end Wr
end Go.Proofs.YtbniijmabebhoaaDoor
