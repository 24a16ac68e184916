/- The reference's Ends, Source, Link and Place, at all arguments. -/
import Derived.Test.YtbniijmabebhoaaDoorRef2
namespace Go.Proofs.YtbniijmabebhoaaDoor
open Go.RowKit
set_option linter.unusedVariables false
namespace Rg
def eFrom (n k : Int) : Int := if endsB n k then k / 4 else -1
def eTo (n k : Int) : Int := if endsB n k then step n (k % 4 / 2) (k / 4) (k % 2 + 1) else -1
def eDir (n k : Int) : Int := if endsB n k then k % 4 / 2 else 0
def eHop (n k : Int) : Int := if endsB n k then k % 2 + 1 else 0
end Rg
def endsV (n k : Int) : Value := .tuple #[.int .i64 (Rg.eFrom n k), .int .i64 (Rg.eTo n k), .int .u8 (Rg.eDir n k), .int .i64 (Rg.eHop n k)]
theorem endsV_bad {n k : Int} (h : Rg.endsB n k = false) : endsV n k = .tuple #[.int .i64 (-1), .int .i64 (-1), .int .u8 0, .int .i64 0] := by
  simp [endsV, Rg.eFrom, Rg.eTo, Rg.eDir, Rg.eHop, h]
theorem endsV_good {n k : Int} (h : Rg.endsB n k = true) : endsV n k = .tuple #[.int .i64 (k / 4), .int .i64 (Rg.step n (k % 4 / 2) (k / 4) (k % 2 + 1)), .int .u8 (k % 4 / 2), .int .i64 (k % 2 + 1)] := by
  simp [endsV, Rg.eFrom, Rg.eTo, Rg.eDir, Rg.eHop, h]
theorem endsV_at (n : Int) (f d h : Nat) (hn : 4 ≤ n) (hn' : n ≤ 16) (hf : (f : Int) < n) (hd : d < 2) (hh : h < 2) :
    endsV n (4 * f + 2 * d + h) = .tuple #[.int .i64 f, .int .i64 (Rg.step n d f (h + 1)), .int .u8 d, .int .i64 (h + 1)] := by
  have e : Rg.endsB n (4 * f + 2 * d + h) = true := by simp [Rg.endsB]; omega
  rw [endsV_good e, show (4 * (f : Int) + 2 * d + h) / 4 = f from by omega, show (4 * (f : Int) + 2 * d + h) % 4 / 2 = d from by omega, show (4 * (f : Int) + 2 * d + h) % 2 + 1 = h + 1 from by omega]
set_option maxHeartbeats 4000000 in
theorem rends_any (n k : Int) (w : World) : Calls Tryd.prog 34 #[.int .i64 n, .int .i64 k] w fun e w' => e = .returned (endsV n k) ∧ w = w' := by
  by_cases hn : 4 ≤ n ∧ n ≤ 16
  · obtain ⟨hn, hn'⟩ := hn
    obtain ⟨m, rfl⟩ := Int.eq_ofNat_of_zero_le (show 0 ≤ n by omega)
    have EV := hide (fun (f d h : Nat) => endsV_at m f d h hn hn')
    have ST := hide (fun (f d h : Nat) (hd : d < 2) => rstep_any m d f (h + 1) w (by omega))
    have EB := hide (fun (h : ¬ (0 ≤ k ∧ k < 4 * m)) => endsV_bad (n := m) (k := k) (by simp [Rg.endsB]; omega))
    have d1 : decide ((m : Int) < 4) = false := decide_eq_false (by omega)
    have d2 : decide (16 < (m : Int)) = false := decide_eq_false (by omega)
    go_enter Tryd.func34, Tryd.ntmps34
    go_wp2_with fail
    go_loopg [8, 9] m (fun gk c i wr => ∃ f : Nat, gk + f = m ∧ c = .int .i64 (4 * f) ∧ i = .int .i64 f ∧ ¬ (0 ≤ k ∧ k < 4 * (f : Int)) ∧ w = wr)
    case atStart => exact ⟨0, rfl, rfl, rfl, by omega, rfl⟩
    case round =>
      obtain ⟨f, hgf, rfl, rfl, hk, rfl⟩ := hrel
      obtain ⟨gf, hgf'⟩ : ∃ x, x = gk := ⟨_, rfl⟩
      by_cases hlf : f < m
      · have d3 : decide ((f : Int) < m) = true := decide_eq_true (by omega)
        have d3' : decide (f < m) = true := decide_eq_true hlf
        go_wp2_with fail
        go_loopg [8, 10] 2 (fun gk c i wr => ∃ d : Nat, gk + d = 2 ∧ c = .int .i64 (4 * f + 2 * d) ∧ i = .int .u8 d ∧ ¬ (0 ≤ k ∧ k < 4 * (f : Int) + 2 * d) ∧ w = wr)
        case atStart => exact ⟨0, rfl, rfl, rfl, by omega, rfl⟩
        case round =>
          obtain ⟨d, hgd, rfl, rfl, hk1, rfl⟩ := hrel
          obtain ⟨gd, hgd'⟩ : ∃ x, x = gk := ⟨_, rfl⟩
          by_cases hld : d < 2
          · have d4 : decide ((d : Int) ≤ 1) = true := decide_eq_true (by omega)
            have d4' : decide (d ≤ 1) = true := decide_eq_true (by omega)
            go_wp2_with fail
            go_loopg [8, 11] 2 (fun gk c i wr => ∃ h : Nat, gk + h = 2 ∧ c = .int .i64 (4 * f + 2 * d + h) ∧ i = .int .i64 (h + 1) ∧ ¬ (0 ≤ k ∧ k < 4 * (f : Int) + 2 * d + h) ∧ w = wr)
            case atStart => exact ⟨0, rfl, rfl, rfl, by omega, rfl⟩
            case round =>
              obtain ⟨h, hgh, rfl, rfl, hk2, rfl⟩ := hrel
              by_cases hlh : h < 2
              · by_cases hck : 4 * (f : Int) + 2 * d + h = k
                · have EV := hide (EV.out f d h (by omega) hld hlh)
                  have ST := hide (ST.out f d h hld)
                  rw [hck] at EV
                  have hc' : (4 * (f : Int) + 2 * d + h == k) = true := by simpa using hck
                  clear hck
                  go_wp2_with fail
                  refine ST.out.mono ?_
                  rintro e w' ⟨rfl, rfl⟩
                  go_wp2_with fail
                  refine bodyPost_ret (results_tmp4' rfl _ _ _) rfl ?_
                  exact ⟨by rw [EV.out]; rfl, rfl⟩
                · have hc' : (4 * (f : Int) + 2 * d + h == k) = false := by simpa using hck
                  go_wp2_with fail
                  go_roundg (gk - 1)
                  case measure => omega
                  case rel => exact ⟨h + 1, by omega, by go_num, by go_num, by omega, rfl⟩
              · go_wp2_with fail
                go_roundg (gd - 1)
                case measure => omega
                case rel => exact ⟨d + 1, by omega, by go_num, by go_num, by omega, rfl⟩
          · go_wp2_with fail
            go_roundg (gf - 1)
            case measure => omega
            case rel => exact ⟨f + 1, by omega, by go_num, by go_num, by omega, rfl⟩
      · have EB := hide (EB.out (by omega))
        go_wp2_with fail
        refine bodyPost_ret (results_tmp4' rfl _ _ _) rfl ?_
        exact ⟨by rw [EB.out]; rfl, rfl⟩
  · have EB := hide (endsV_bad (n := n) (k := k) (by simp [Rg.endsB]; omega))
    by_cases h4 : n < 4
    · have d1 : decide (n < 4) = true := decide_eq_true h4
      go_enter Tryd.func34, Tryd.ntmps34
      go_wp2_with fail
      refine bodyPost_ret (results_tmp4' rfl _ _ _) rfl ?_
      exact ⟨by rw [EB.out]; rfl, rfl⟩
    · have d1 : decide (n < 4) = false := decide_eq_false h4
      have d2 : decide (16 < n) = true := decide_eq_true (by omega)
      go_enter Tryd.func34, Tryd.ntmps34
      go_wp2_with fail
      refine bodyPost_ret (results_tmp4' rfl _ _ _) rfl ?_
      exact ⟨by rw [EB.out]; rfl, rfl⟩
end Go.Proofs.YtbniijmabebhoaaDoor
