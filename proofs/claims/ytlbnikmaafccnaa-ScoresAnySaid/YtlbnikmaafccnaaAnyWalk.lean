/- The walk of ScoresAny: whatever score, count and run of at most 1000 rewards and penalties, the law returns true, and nothing that was there has turned. -/
import Derived.Test.YtlbnikmaafccnaaScores
import Derived.BigQuiet
import Derived.Deep.QuietTactic
namespace Go.Proofs.Ytlbnikmaafccnaa
open Go.RowKit
set_option linter.unusedVariables false
theorem info4 : (Try.prog.info? 4).map (fun i => (i.zero, i.size, i.bytes)) = some (some (.bool false), 1, 1) := by kernel_rfl
set_option maxHeartbeats 1000000 in
theorem any_walk_long (s c : Int) (A : Option Addr) (len cap : Nat) (w : World) (hs : 1000 < len) (hm : len ≤ maxLen) :
    Calls Try.prog 3 #[.int .u16 s, .int .u8 c, .slice A len cap] w fun e w' => e = .returned (.bool true) ∧ Below w.heap.size w w' := by
  unfold maxLen at hm
  have h1 : (1000 : Int) < len := by omega
  have LI := hide (scLives_any w)
  go_enter Try.func3, Try.ntmps3
  go_wp2_with fail
  refine LI.out.mono ?_
  rintro e w' ⟨rfl, rfl⟩
  go_wp2_with fail
  go_ret
  exact ⟨rfl, (Below.refl _ _).alloc (Nat.le_refl _) _⟩
set_option maxHeartbeats 1000000 in
theorem any_walk (s c : Int) (A : Option Addr) (bs : List Bool) (len cap : Nat) (w : World) (h : 0 ≤ s) (h' : s ≤ 65535) (hc : 0 ≤ c) (hc' : c ≤ 255) (hl : bs.length = len) (hs : len ≤ 1000) (hr : Sl w w.heap.size A (bs.map .bool)) :
    Calls Try.prog 3 #[.int .u16 s, .int .u8 c, .slice A len cap] w fun e w' => e = .returned (.bool true) ∧ Below w.heap.size w w' := by
  obtain ⟨i0, hi, hz0, hz1, hz2⟩ := info_parts info4
  have HL := hide hl
  have HR := hide hr
  clear hl hr
  go_enter Try.func3, Try.ntmps3
  have bn : bs.length ≤ 1000 := by rw [HL.out]; exact hs
  have b1 := Sc.run_bd s bs h
  have bl : 0 ≤ Sc.lvl s ∧ Sc.lvl s ≤ 2 := by unfold Sc.lvl; repeat' split <;> omega
  have hp : 0 ≤ Sc.pen s ∧ Sc.pen s ≤ 1000 := Sc.pen_bd s h
  go_wp2_with (at_builtin; refine wpList_append_sl _ rfl _ _ 23 rfl w.heap.size 4 i0 (.bool false) 1 1 Try.underlying23 hi hz0 hz1 hz2 rfl (by decide) (.slice none 0 0) 0 [] rfl (World.ownsRow_nil _ _ _ _) w.heap.size A len cap (bs.map .bool) rfl (by rw [List.length_map, HL.out, Nat.mul_one]) HR.out (one_bools bs) (by unfold maxLen; omega) (by omega) (Nat.le_refl _) ?_; intro v1 w1 hown1 hg1 hat1; obtain ⟨A1, c1, hv1, _, _, _, hs1⟩ := own_shape hown1; rw [hv1]; rw [Nat.zero_add])
  have hb1 : Below w.heap.size w w1 := (Below.refl _ _).grown hg1 (Nat.le_refl _) (by simp [Value.ownBlock])
  have HS1 := hide hs1
  have HB1 := hide hb1
  have HR1 := hide (HR.out.below hb1)
  clear hs1 hb1 hown1 hg1 hat1 hv1
  refine (penalty_any s _ h h').mono ?_
  rintro e w' ⟨rfl, rfl⟩
  go_wp2_with fail
  refine (refPenalty_any s _ h h').mono ?_
  rintro e w' ⟨rfl, rfl⟩
  go_wp2_with fail
  refine (reward_any s _ h h').mono ?_
  rintro e w' ⟨rfl, rfl⟩
  go_wp2_with fail
  refine (refReward_any s _ h h').mono ?_
  rintro e w' ⟨rfl, rfl⟩
  go_wp2_with fail
  refine (level_any s _ h h').mono ?_
  rintro e w' ⟨rfl, rfl⟩
  go_wp2_with fail
  refine (refLevel_any s _ h h').mono ?_
  rintro e w' ⟨rfl, rfl⟩
  go_wp2_with fail
  refine (up_any c _ hc hc').mono ?_
  rintro e w' ⟨rfl, rfl⟩
  go_wp2_with fail
  refine (refUp_any c _ hc hc').mono ?_
  rintro e w' ⟨rfl, rfl⟩
  go_wp2_with fail
  refine (run_any s A1 bs len c1 w1 h h' HL.out hs HS1.out).mono ?_
  rintro e w' ⟨rfl, rfl⟩
  go_wp2_with fail
  refine (refRun_any s A bs len cap w1 h h' HL.out hs (HR1.out.more HB1.out.size)).mono ?_
  rintro e w' ⟨rfl, rfl⟩
  go_wp2_with fail
  go_loopw [8] (fun i wr => ∃ k n : Nat, k ≤ len ∧ i = .int .i64 k ∧ wr = w1.drewN n) (fun i _ => len - (intOf i).toNat)
  case atStart => exact ⟨0, 0, Nat.zero_le _, rfl, rfl⟩
  case round =>
    obtain ⟨k, n, hk, rfl, rfl⟩ := hrel
    by_cases hlt : k < len
    · obtain ⟨ad, rfl, _, hc⟩ := HR1.out.at_ (k := k) (by simpa [HL.out] using hlt)
      obtain ⟨ad1, rfl, _, hc1⟩ := HS1.out.at_ (k := k) (by simpa [HL.out] using hlt)
      simp only [List.nil_append] at hc1
      rw [List.getElem_map] at hc hc1
      generalize bs[k]'(by rw [HL.out]; exact hlt) = bk at *
      go_wp2_with fail
      go_quiet (fail)
      go_wp2_with fail
      go_roundw
      case rel => exact ⟨k + 1, _, by omega, by go_num, rfl⟩
      case measure => simp [intOf]; omega
    · go_wp2_with fail
      refine (scLives_any _).mono ?_
      rintro e w' ⟨rfl, rfl⟩
      go_wp2_with fail
      go_ret
      exact ⟨rfl, (below_drewN HB1.out n).alloc HB1.out.size _⟩
end Go.Proofs.Ytlbnikmaafccnaa
