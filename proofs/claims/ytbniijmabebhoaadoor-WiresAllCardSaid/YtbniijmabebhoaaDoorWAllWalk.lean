/- The walk of WiresAll: what all links are given in one tick is each here at its other end, once; nothing that was there has turned. -/
import Derived.Test.YtbniijmabebhoaaDoorWPlain

import Derived.Deep.LoopGhost
namespace Go.Proofs.YtbniijmabebhoaaDoor
open Go.RowKit
set_option linter.unusedVariables false
namespace Wr
open Mp
set_option maxRecDepth 100000 in
set_option maxHeartbeats 8000000 in
theorem all_walk (nb wb : Int) (w : World) (h0 : 0 ≤ nb) (h0' : nb ≤ 255) (h1 : 0 ≤ wb) (h1' : wb ≤ 255) (hs : 0 < w.heap.size) (sg : Signs w) :
    Calls Tryd.prog 13 #[.int .u8 nb, .int .u8 wb] w fun e w' => e = .returned (.bool true) ∧ Below w.heap.size w w' := by
  obtain ⟨n, hn⟩ : ∃ n : Nat, 4 + nb % 13 = (n : Int) := ⟨(4 + nb % 13).toNat, by omega⟩
  have hn4 : 4 ≤ n := by omega
  have hn16 : n ≤ 16 := by omega
  have HN := hide (fun W => nodes_any nb W h0 h0')
  rw [hn] at HN
  obtain ⟨m, hm, hm'⟩ : ∃ m : Nat, wb % 5 = (m : Int) ∧ m < 5 := ⟨(wb % 5).toNat, by omega, by omega⟩
  have HS := hide (And.intro hs sg)
  clear hs sg hn
  go_enter Tryd.func13, Tryd.ntmps13
  go_wp2_with fail
  refine (HN.out _).mono ?_
  rintro e w' ⟨rfl, rfl⟩
  have hn0 : (0 : Int) < 4 * (n : Int) := by omega
  go_wp2_with fail
  refine (ws_new n w w hn4 hn16 HS.out.1 HS.out.2 (Below.refl _ _)).mono ?_
  rintro e w1 ⟨A, rfl, s1⟩
  have S1 := hide s1
  clear s1
  go_wp2_with fail
  go_loopg [8] m (fun gk i wr => ∃ (k : Nat) (H : List (Int → Option Int)), gk + k = m ∧ i = .int .i64 k ∧ Hid (H.length = k) ∧ Hid (Ws w wr A n H []) ∧ Hid (∀ (i : Nat) (j : Int), past H i j = none))
  case atStart => exact ⟨0, [], by omega, rfl, rfl, S1, fun i j => past_nil i j⟩
  case round =>
    obtain ⟨k, H, hgk, rfl, HL, S, HP⟩ := hrel
    clear S1
    by_cases hlt : k < m
    · have hq : (k : Int) < m := by omega
      go_wp2_with fail
      refine (ws_end S.out (by have := HL.out; omega)).mono ?_
      rintro e w6 ⟨rfl, s6⟩
      have S6 := hide s6
      clear s6
      have HL' := hide (show ((fun j => get ([] : List (Int × Int)) j) :: H).length = k + 1 from by rw [List.length_cons, HL.out])
      have HP' := hide (show ∀ (i : Nat) (j : Int), past ((fun j => get ([] : List (Int × Int)) j) :: H) i j = none from by
        intro i j
        cases i with
        | zero => rfl
        | succ i => rw [past_succ, HP.out])
      go_wp2_with fail
      go_roundg (gk - 1)
      case measure => omega
      case rel => exact ⟨k + 1, _, by omega, by go_num, HL', S6, HP'⟩
    · obtain rfl : k = m := by omega
      go_wp2_with fail
      clear hm
      go_loopg [9] (4 * n) (fun gk i wr => ∃ (q : Nat) (g : List (Int × Int)), gk + q = 4 * n ∧ i = .int .i64 q ∧ Hid (Ws w wr A n H g) ∧ Hid (∀ j : Int, get g j = if 0 ≤ j ∧ j < q then some (100 + j) else none))
      case atStart => exact ⟨0, [], by omega, rfl, S, fun j => by rw [get_nil, if_neg (by omega)]⟩
      case round =>
        obtain ⟨q, g, hgq, rfl, S2, HG⟩ := hrel
        clear S
        by_cases hlq : q < 4 * n
        · have hq0 : (0 : Int) ≤ q := by omega
          have hq1 : (q : Int) < 4 * n := by omega
          go_wp2_with fail
          refine (ws_give S2.out q (100 + (q : Int)) ((inB_iff n q).2 (by omega))).mono ?_
          rintro e w7 ⟨rfl, s7⟩
          have S7 := hide s7
          clear s7
          have HG' := hide (show ∀ j : Int, get (upd (q : Int) (100 + (q : Int)) g) j = if 0 ≤ j ∧ j < ((q + 1 : Nat) : Int) then some (100 + j) else none from by
            intro j
            rw [get_upd, HG.out]
            by_cases hj : j = q
            · subst hj
              rw [if_pos rfl, if_pos (by omega)]
            · rw [if_neg hj]
              by_cases h2 : 0 ≤ j ∧ j < q
              · rw [if_pos h2, if_pos (by omega)]
              · rw [if_neg h2, if_neg (by omega)])
          go_wp2_with fail
          go_roundg (gk - 1)
          case measure => omega
          case rel => exact ⟨q + 1, _, by omega, by go_num, S7, HG'⟩
        · obtain rfl : q = 4 * n := by omega
          go_wp2_with fail
          go_loopg [10] 4 (fun gk i wr => ∃ (t : Nat) (H : List (Int → Option Int)) (g : List (Int × Int)), gk + t = 4 ∧ i = .int .i64 ((t : Int) + 1) ∧ Hid (H.length ≤ 10 + t) ∧ Hid (Ws w wr A n H g) ∧ Hid (∀ j : Int, get g j = if t = 0 ∧ 0 ≤ j ∧ j < 4 * n then some (100 + j) else none) ∧ Hid (∀ (i : Nat) (j : Int), past H i j = if i + 1 = t ∧ 0 ≤ j ∧ j < 4 * n then some (100 + j) else none))
          case atStart => exact ⟨0, H, g, rfl, rfl, by have := HL.out; show H.length ≤ 10 + 0; omega, S2, fun j => by rw [HG.out]; simp, fun i j => by rw [HP.out]; simp⟩
          case round =>
            obtain ⟨t, H', g', hgk', rfl, HL', S, HG', HP'⟩ := hrel
            clear S2 HG HP HL
            obtain ⟨go, hgo⟩ : ∃ x, x = gk := ⟨_, rfl⟩
            obtain ⟨wo, hwo⟩ : ∃ x, x = wr := ⟨_, rfl⟩
            subst hwo
            by_cases hlt' : t < 4
            · have hq : ((t : Int) + 1 ≤ 4) := by omega
              have hq' : decide ((t : Int) + 1 ≤ 4) = true := decide_eq_true (by omega)
              go_wp2_with fail
              refine (ws_end S.out (by have := HL'.out; omega)).mono ?_
              rintro e w6 ⟨rfl, s6⟩
              have S6 := hide s6
              clear s6
              obtain ⟨H2, hH2⟩ : ∃ H2, (fun j => get g' j) :: H' = H2 := ⟨_, rfl⟩
              have HL2 := hide (show H2.length ≤ 10 + (t + 1) from by have := HL'.out; rw [← hH2, List.length_cons]; omega)
              have HP2 := hide (show ∀ (i : Nat) (j : Int), past H2 i j = if i + 1 = t + 1 ∧ 0 ≤ j ∧ j < 4 * n then some (100 + j) else none from by
                intro i j
                rw [← hH2]
                cases i with
                | zero => rw [past_zero, HG'.out]; by_cases h : t = 0 <;> simp [h]
                | succ i => rw [past_succ, HP'.out]; simp)
              rw [hH2] at S6
              clear hH2 HL' S HG' HP'
              go_wp2_with fail
              go_loopg [11] (4 * n) (fun gk i wr => ∃ j : Nat, gk + j = 4 * n ∧ i = .int .i64 j ∧ Hid (Ws w wr A n H2 []))
              case atStart => exact ⟨0, by omega, rfl, S6⟩
              case round =>
                obtain ⟨j, hgj, rfl, S⟩ := hrel
                clear S6
                by_cases hlj : j < 4 * n
                · have hj0 : (0 : Int) ≤ j := by omega
                  have hj1 : (j : Int) < 4 * n := by omega
                  have EN := hide (fun W (h : Ws w W A n H2 []) => ends_good n j W (by simp [Rg.endsB]; omega) (HS.out.2.below h.bel HS.out.1))
                  have HE := hide (fun W (h : Ws w W A n H2 []) => ws_here h HS.out.1 HS.out.2 ((j : Int) % 4 / 2) (Rg.step n ((j : Int) % 4 / 2) ((j : Int) / 4) ((j : Int) % 2 + 1)) ((j : Int) % 2 + 1) (by omega))
                  rw [here_end n H2 j hn4 hn16 hlj, HP2.out] at HE
                  have SR := hide (fun W (h : Ws w W A n H2 []) => src_any n ((j : Int) % 4 / 2) (Rg.step n ((j : Int) % 4 / 2) ((j : Int) / 4) ((j : Int) % 2 + 1)) ((j : Int) % 2 + 1) W (by omega) (HS.out.2.below h.bel HS.out.1))
                  rw [(step_back n ((j : Int) % 4 / 2) ((j : Int) / 4) ((j : Int) % 2 + 1) (by omega) (by omega) (by omega) (by omega) (by omega) (by omega) (by omega)).2.2] at SR
                  obtain ⟨fr, hfr⟩ : ∃ x, (j : Int) / 4 = x := ⟨_, rfl⟩
                  obtain ⟨dd, hdd⟩ : ∃ x, (j : Int) % 4 / 2 = x := ⟨_, rfl⟩
                  obtain ⟨hp, hhp⟩ : ∃ x, (j : Int) % 2 + 1 = x := ⟨_, rfl⟩
                  rw [hfr, hdd, hhp] at EN HE SR
                  obtain ⟨to, hto⟩ : ∃ x, Rg.step n dd fr hp = x := ⟨_, rfl⟩
                  rw [hto] at EN HE SR
                  have GV := hide (fun W (h : Ws w W A n H2 []) => ws_given h j)
                  rw [get_nil] at GV
                  clear hfr hdd hto
                  obtain ⟨q, hq⟩ : ∃ q, decide (j % 2 + 1 = t + 1) = q := ⟨_, rfl⟩
                  have b2 : (((t : Int) + 1) == hp) = q := by
                    rw [← hq, Bool.eq_iff_iff]
                    simp
                    omega
                  have ho : (if j % 2 + 1 = t + 1 ∧ 0 ≤ (j : Int) ∧ (j : Int) < 4 * n then some (100 + (j : Int)) else none) = if q then some (100 + (j : Int)) else none := by
                    rw [← hq]
                    by_cases h : j % 2 + 1 = t + 1
                    · rw [if_pos ⟨h, hj0, hj1⟩, decide_eq_true h]; rfl
                    · rw [if_neg (fun e => h e.1), decide_eq_false h]; rfl
                  rw [ho] at HE
                  clear ho hq hhp
                  cases q <;>
                  · go_wp2_with fail
                    refine (EN.out _ S.out).mono ?_
                    rintro e w7 ⟨rfl, m7, rfl⟩
                    have S7 := hide (S.out.drewN m7)
                    clear EN
                    go_wp2_with fail
                    refine (HE.out _ S7.out).mono ?_
                    rintro e w8 ⟨rfl, s8⟩
                    have S8 := hide s8
                    clear s8 HE
                    go_wp2_with fail
                    refine (SR.out _ S8.out).mono ?_
                    rintro e w9 ⟨rfl, m9, rfl⟩
                    have S9 := hide (S8.out.drewN m9)
                    clear SR
                    go_wp2_with fail
                    refine (GV.out _ S9.out).mono ?_
                    rintro e w' ⟨rfl, rfl⟩
                    go_wp2_with fail
                    go_roundg (gk - 1)
                    case measure => omega
                    case rel => exact ⟨j + 1, by omega, by go_num, S9⟩
                · obtain rfl : j = 4 * n := by omega
                  go_wp2_with fail
                  go_roundg (go - 1)
                  case measure => omega
                  case rel => exact ⟨t + 1, H2, [], by omega, by go_num, HL2, S, fun j => by rw [get_nil]; simp, HP2.out⟩
            · obtain rfl : t = 4 := by omega
              go_wp2_with fail
              refine (wlives_any w wo HS.out.1 HS.out.2 S.out.bel).mono ?_
              rintro e w7 ⟨rfl, b7⟩
              have B7 := hide b7
              clear b7
              go_wp2_with fail
              go_ret
              exact ⟨rfl, B7.out⟩
end Wr
end Go.Proofs.YtbniijmabebhoaaDoor
