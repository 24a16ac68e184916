/- The walk of ScoresBound: whatever score and count, the law returns true, and nothing that was there has turned. -/
import Derived.Test.YtlbnikmaafccnaaScores
import Derived.BigQuiet
import Derived.Deep.QuietTactic
namespace Go.Proofs.Ytlbnikmaafccnaa
open Go.RowKit
theorem lvl_mono (a b : Int) (h : a ≤ b) : Sc.lvl a ≤ Sc.lvl b := by unfold Sc.lvl; repeat' split <;> omega
theorem lvl_bd (a : Int) : 0 ≤ Sc.lvl a ∧ Sc.lvl a ≤ 2 := by unfold Sc.lvl; repeat' split <;> omega
set_option maxHeartbeats 800000 in
theorem bound_walk (s c : Int) (w : World) (h : 0 ≤ s) (h' : s ≤ 65535) (hc : 0 ≤ c) (hc' : c ≤ 255) :
    Calls Try.prog 4 #[.int .u16 s, .int .u8 c] w fun e w' => e = .returned (.bool true) ∧ Below w.heap.size w w' := by
  have hl := lvl_mono (Sc.rew s) (Sc.pen s) (by unfold Sc.rew Sc.pen; omega)
  have hp : 0 ≤ Sc.pen s ∧ Sc.pen s ≤ 1000 := Sc.pen_bd s h
  have hr : 0 ≤ Sc.rew s ∧ Sc.rew s ≤ 1000 := Sc.rew_bd s h
  have hu : 1 ≤ Sc.upc c ∧ Sc.upc c ≤ 100 := by unfold Sc.upc; omega
  have k1 : s ≤ 1000 → s ≤ Sc.pen s ∧ Sc.rew s ≤ s := by unfold Sc.pen Sc.rew; omega
  have k2 : s < 1000 → s < Sc.pen s := by unfold Sc.pen; omega
  have k3 : 0 < s → s ≤ 1000 → Sc.rew s < s := by unfold Sc.rew; omega
  have k4 : c < 100 → Sc.upc c = c + 1 := by unfold Sc.upc; omega
  have k5 : s = 1000 → Sc.pen s = 1000 := by unfold Sc.pen; omega
  have k6 : s = 0 → Sc.rew s = 0 := by unfold Sc.rew; omega
  have P := penalty_any s w h h'
  have R := reward_any s w h h'
  have U := up_any c w hc hc'
  have LR := level_any (Sc.rew s) w hr.1 (by omega)
  have LP := level_any (Sc.pen s) w hp.1 (by omega)
  have bl := lvl_bd (Sc.rew s)
  have bl' := lvl_bd (Sc.pen s)
  have LI := scLives_any w
  generalize Sc.lvl (Sc.rew s) = lr at *
  generalize Sc.lvl (Sc.pen s) = lp at *
  generalize Sc.pen s = p at *
  generalize Sc.rew s = r at *
  generalize Sc.upc c = u at *
  replace P := hide P
  replace R := hide R
  replace U := hide U
  replace LR := hide LR
  replace LP := hide LP
  replace LI := hide LI
  have hc1 : c < 100 ∨ 100 ≤ c := by omega
  rcases (show s > 1000 ∨ s = 1000 ∨ (0 < s ∧ s < 1000) ∨ s = 0 from by omega) with g | g | ⟨g, g'⟩ | g
  · clear k1 k2 k3 k5 k6
    rcases hc1 with gc | gc
    · obtain rfl := k4 gc
      go_enter Try.func4, Try.ntmps4
      go_wp2_with fail
      refine P.out.mono ?_
      rintro e w' ⟨rfl, rfl⟩
      go_wp2_with fail
      refine R.out.mono ?_
      rintro e w' ⟨rfl, rfl⟩
      go_wp2_with fail
      refine U.out.mono ?_
      rintro e w' ⟨rfl, rfl⟩
      go_wp2_with fail
      refine LR.out.mono ?_
      rintro e w' ⟨rfl, rfl⟩
      go_wp2_with fail
      refine LP.out.mono ?_
      rintro e w' ⟨rfl, rfl⟩
      go_wp2_with fail
      refine LI.out.mono ?_
      rintro e w' ⟨rfl, rfl⟩
      go_wp2_with fail
      go_ret
      exact ⟨rfl, (Below.refl _ _).alloc (Nat.le_refl _) _⟩
    · clear k4
      go_enter Try.func4, Try.ntmps4
      go_wp2_with fail
      refine P.out.mono ?_
      rintro e w' ⟨rfl, rfl⟩
      go_wp2_with fail
      refine R.out.mono ?_
      rintro e w' ⟨rfl, rfl⟩
      go_wp2_with fail
      refine U.out.mono ?_
      rintro e w' ⟨rfl, rfl⟩
      go_wp2_with fail
      refine LR.out.mono ?_
      rintro e w' ⟨rfl, rfl⟩
      go_wp2_with fail
      refine LP.out.mono ?_
      rintro e w' ⟨rfl, rfl⟩
      go_wp2_with fail
      refine LI.out.mono ?_
      rintro e w' ⟨rfl, rfl⟩
      go_wp2_with fail
      go_ret
      exact ⟨rfl, (Below.refl _ _).alloc (Nat.le_refl _) _⟩
  · have e5 := k5 g
    obtain ⟨_, e1⟩ := k1 (by omega)
    have e3 := k3 (by omega) (by omega)
    clear k1 k2 k3 k5 k6
    subst g
    subst e5
    have q : (r == 1000) = false := by simp; omega
    rcases hc1 with gc | gc
    · obtain rfl := k4 gc
      go_enter Try.func4, Try.ntmps4
      go_wp2_with fail
      refine P.out.mono ?_
      rintro e w' ⟨rfl, rfl⟩
      go_wp2_with fail
      refine R.out.mono ?_
      rintro e w' ⟨rfl, rfl⟩
      go_wp2_with fail
      refine U.out.mono ?_
      rintro e w' ⟨rfl, rfl⟩
      go_wp2_with fail
      refine LR.out.mono ?_
      rintro e w' ⟨rfl, rfl⟩
      go_wp2_with fail
      refine LP.out.mono ?_
      rintro e w' ⟨rfl, rfl⟩
      go_wp2_with fail
      refine LI.out.mono ?_
      rintro e w' ⟨rfl, rfl⟩
      go_wp2_with fail
      go_ret
      exact ⟨rfl, (Below.refl _ _).alloc (Nat.le_refl _) _⟩
    · clear k4
      go_enter Try.func4, Try.ntmps4
      go_wp2_with fail
      refine P.out.mono ?_
      rintro e w' ⟨rfl, rfl⟩
      go_wp2_with fail
      refine R.out.mono ?_
      rintro e w' ⟨rfl, rfl⟩
      go_wp2_with fail
      refine U.out.mono ?_
      rintro e w' ⟨rfl, rfl⟩
      go_wp2_with fail
      refine LR.out.mono ?_
      rintro e w' ⟨rfl, rfl⟩
      go_wp2_with fail
      refine LP.out.mono ?_
      rintro e w' ⟨rfl, rfl⟩
      go_wp2_with fail
      refine LI.out.mono ?_
      rintro e w' ⟨rfl, rfl⟩
      go_wp2_with fail
      go_ret
      exact ⟨rfl, (Below.refl _ _).alloc (Nat.le_refl _) _⟩
  · obtain ⟨e0, e1⟩ := k1 (by omega)
    have e2 := k2 (by omega)
    have e3 := k3 (by omega) (by omega)
    clear k1 k2 k3 k5 k6
    have q : (r == s) = false := by simp; omega
    have q' : (p == s) = false := by simp; omega
    rcases hc1 with gc | gc
    · obtain rfl := k4 gc
      go_enter Try.func4, Try.ntmps4
      go_wp2_with fail
      refine P.out.mono ?_
      rintro e w' ⟨rfl, rfl⟩
      go_wp2_with fail
      refine R.out.mono ?_
      rintro e w' ⟨rfl, rfl⟩
      go_wp2_with fail
      refine U.out.mono ?_
      rintro e w' ⟨rfl, rfl⟩
      go_wp2_with fail
      refine LR.out.mono ?_
      rintro e w' ⟨rfl, rfl⟩
      go_wp2_with fail
      refine LP.out.mono ?_
      rintro e w' ⟨rfl, rfl⟩
      go_wp2_with fail
      refine LI.out.mono ?_
      rintro e w' ⟨rfl, rfl⟩
      go_wp2_with fail
      go_ret
      exact ⟨rfl, (Below.refl _ _).alloc (Nat.le_refl _) _⟩
    · clear k4
      go_enter Try.func4, Try.ntmps4
      go_wp2_with fail
      refine P.out.mono ?_
      rintro e w' ⟨rfl, rfl⟩
      go_wp2_with fail
      refine R.out.mono ?_
      rintro e w' ⟨rfl, rfl⟩
      go_wp2_with fail
      refine U.out.mono ?_
      rintro e w' ⟨rfl, rfl⟩
      go_wp2_with fail
      refine LR.out.mono ?_
      rintro e w' ⟨rfl, rfl⟩
      go_wp2_with fail
      refine LP.out.mono ?_
      rintro e w' ⟨rfl, rfl⟩
      go_wp2_with fail
      refine LI.out.mono ?_
      rintro e w' ⟨rfl, rfl⟩
      go_wp2_with fail
      go_ret
      exact ⟨rfl, (Below.refl _ _).alloc (Nat.le_refl _) _⟩
  · have e6 := k6 g
    obtain ⟨e0, e1⟩ := k1 (by omega)
    have e2 := k2 (by omega)
    clear k1 k2 k3 k5 k6
    subst g
    subst e6
    have q' : (p == 0) = false := by simp; omega
    rcases hc1 with gc | gc
    · obtain rfl := k4 gc
      go_enter Try.func4, Try.ntmps4
      go_wp2_with fail
      refine P.out.mono ?_
      rintro e w' ⟨rfl, rfl⟩
      go_wp2_with fail
      refine R.out.mono ?_
      rintro e w' ⟨rfl, rfl⟩
      go_wp2_with fail
      refine U.out.mono ?_
      rintro e w' ⟨rfl, rfl⟩
      go_wp2_with fail
      refine LR.out.mono ?_
      rintro e w' ⟨rfl, rfl⟩
      go_wp2_with fail
      refine LP.out.mono ?_
      rintro e w' ⟨rfl, rfl⟩
      go_wp2_with fail
      refine LI.out.mono ?_
      rintro e w' ⟨rfl, rfl⟩
      go_wp2_with fail
      go_ret
      exact ⟨rfl, (Below.refl _ _).alloc (Nat.le_refl _) _⟩
    · clear k4
      go_enter Try.func4, Try.ntmps4
      go_wp2_with fail
      refine P.out.mono ?_
      rintro e w' ⟨rfl, rfl⟩
      go_wp2_with fail
      refine R.out.mono ?_
      rintro e w' ⟨rfl, rfl⟩
      go_wp2_with fail
      refine U.out.mono ?_
      rintro e w' ⟨rfl, rfl⟩
      go_wp2_with fail
      refine LR.out.mono ?_
      rintro e w' ⟨rfl, rfl⟩
      go_wp2_with fail
      refine LP.out.mono ?_
      rintro e w' ⟨rfl, rfl⟩
      go_wp2_with fail
      refine LI.out.mono ?_
      rintro e w' ⟨rfl, rfl⟩
      go_wp2_with fail
      go_ret
      exact ⟨rfl, (Below.refl _ _).alloc (Nat.le_refl _) _⟩
end Go.Proofs.Ytlbnikmaafccnaa
