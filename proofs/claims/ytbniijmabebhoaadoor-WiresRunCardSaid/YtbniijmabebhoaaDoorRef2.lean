/- The reference's Step and Distance, at all arguments. -/
import Derived.Test.YtbniijmabebhoaaDoorRef
namespace Go.Proofs.YtbniijmabebhoaaDoor
open Go.RowKit
set_option linter.unusedVariables false
theorem rstep_any (n d a s : Int) (w : World) (hd : 0 ≤ d) :
    Calls Tryd.prog 29 #[.int .i64 n, .int .u8 d, .int .i64 a, .int .i64 s] w fun e w' => e = .returned (.int .i64 (Rg.step n d a s)) ∧ w = w' := by
  have HI := hide (ris_any n d w hd)
  cases r : Rg.ringB n d with
  | false =>
    have E := hide (show Rg.step n d a s = -1 by rw [Rg.step, r]; rfl)
    rw [r] at HI
    clear r
    go_enter Tryd.func29, Tryd.ntmps29
    go_wp2_with fail
    refine HI.out.mono ?_
    rintro e w' ⟨rfl, rfl⟩
    go_wp2_with fail
    go_ret
    exact ⟨ret_int E.out.symm, rfl⟩
  | true =>
    obtain ⟨h1, h2, h3⟩ := ring_out r
    cases q : Rg.nodeB n a with
    | true =>
      obtain ⟨h4, h5⟩ := node_out q
      exact rstep_good n d a s w h1 h2 (by omega) h4 h5
    | false =>
      have E := hide (show Rg.step n d a s = -1 by rw [Rg.step, r, q]; rfl)
      rw [r] at HI
      clear r
      have hq : a < 0 ∨ (0 ≤ a ∧ n ≤ a) := by simp [Rg.nodeB] at q; omega
      clear q
      rcases hq with hq | ⟨hq, hq'⟩
      · have d1 : decide (a < 0) = true := decide_eq_true hq
        go_enter Tryd.func29, Tryd.ntmps29
        go_wp2_with fail
        refine HI.out.mono ?_
        rintro e w' ⟨rfl, rfl⟩
        go_wp2_with fail
        go_ret
        exact ⟨ret_int E.out.symm, rfl⟩
      · have d1 : decide (a < 0) = false := decide_eq_false (by omega)
        have d2 : decide (n ≤ a) = true := decide_eq_true hq'
        go_enter Tryd.func29, Tryd.ntmps29
        go_wp2_with fail
        refine HI.out.mono ?_
        rintro e w' ⟨rfl, rfl⟩
        go_wp2_with fail
        go_ret
        exact ⟨ret_int E.out.symm, rfl⟩
theorem dist_step (n d a j : Int) (hn : 4 ≤ n) (hn' : n ≤ 16) (hd : d = 0 ∨ d = 1) (ha : 0 ≤ a) (ha' : a < n) (hj : 0 ≤ j) (hj' : j < n) : Rg.dist n d a (Rg.step n d a j) = j := by
  obtain ⟨h1, h2⟩ := step_rng n d a j hn hn' hd ha ha'
  rw [dist_is n d a _ hn hn' hd ha ha' h1 h2, step_is n d a j hn hn' hd ha ha']
  rcases hd with rfl | rfl
  · simp only [if_true]
    rw [Int.sub_eq_add_neg, Int.emod_add_emod, show a + j + -a = j from by omega, Int.emod_eq_of_lt hj hj']
  · simp only [show ¬ (1 : Int) = 0 from by decide, if_false]
    rw [Int.sub_emod_emod, show a - (a - j) = j from by omega, Int.emod_eq_of_lt hj hj']
theorem step_dist (n d a b : Int) (hn : 4 ≤ n) (hn' : n ≤ 16) (hd : d = 0 ∨ d = 1) (ha : 0 ≤ a) (ha' : a < n) (hb : 0 ≤ b) (hb' : b < n) : Rg.step n d a (Rg.dist n d a b) = b := by
  rw [step_is n d a _ hn hn' hd ha ha', dist_is n d a b hn hn' hd ha ha' hb hb']
  rcases hd with rfl | rfl
  · simp only [if_true]
    rw [Int.add_emod_emod, show a + (b - a) = b from by omega, Int.emod_eq_of_lt hb hb']
  · simp only [show ¬ (1 : Int) = 0 from by decide, if_false]
    rw [Int.sub_emod_emod, show a - (a - b) = b from by omega, Int.emod_eq_of_lt hb hb']
theorem dist_rng (n d a b : Int) (hn : 4 ≤ n) (hn' : n ≤ 16) (hd : d = 0 ∨ d = 1) (ha : 0 ≤ a) (ha' : a < n) (hb : 0 ≤ b) (hb' : b < n) : 0 ≤ Rg.dist n d a b ∧ Rg.dist n d a b < n := by
  rw [dist_is n d a b hn hn' hd ha ha' hb hb']; exact emod_rng _ _ (by omega)
set_option maxHeartbeats 4000000 in
theorem rdist_good (n d a b : Int) (w : World) (hn : 4 ≤ n) (hn' : n ≤ 16) (hd : d = 0 ∨ d = 1) (ha : 0 ≤ a) (ha' : a < n) (hb : 0 ≤ b) (hb' : b < n) :
    Calls Tryd.prog 31 #[.int .i64 n, .int .u8 d, .int .i64 a, .int .i64 b] w fun e w' => e = .returned (.int .i64 (Rg.dist n d a b)) ∧ w = w' := by
  have HI := hide (ris_any n d w (by omega))
  have r : Rg.ringB n d = true := by simp [Rg.ringB]; omega
  rw [r] at HI
  clear r
  have bd := dist_rng n d a b hn hn' hd ha ha' hb hb'
  have SD := hide (step_dist n d a b hn hn' hd ha ha' hb hb')
  obtain ⟨k, hk⟩ := Int.eq_ofNat_of_zero_le bd.1
  have NE := hide (show ∀ j : Nat, j < k → ¬ Rg.step n d a j = b from fun j hj e => by
    have h := dist_step n d a j hn hn' hd ha ha' (by omega) (by omega)
    rw [e, hk] at h
    omega)
  rw [hk] at SD bd ⊢
  clear hk
  have NX := hide (fun (x : Int) (h1 : 0 ≤ x) (h2 : x < n) => rnext_any n d x w hn hn' hd h1 h2)
  have NM := hide (fun (i : Int) => step_more n d a i hn hn' hd ha ha')
  have NR := hide (fun (i : Int) => step_rng n d a i hn hn' hd ha ha')
  have NZ := hide (step_zero n d a hn hn' hd ha ha')
  go_enter Tryd.func31, Tryd.ntmps31
  go_wp2_with fail
  refine HI.out.mono ?_
  rintro e w' ⟨rfl, rfl⟩
  go_wp2_with fail
  go_loopg [2, 9] k (fun gk x i wr => ∃ j : Nat, gk + j = k ∧ x = .int .i64 (Rg.step n d a j) ∧ i = .int .i64 j ∧ wr = w)
  case atStart => exact ⟨0, rfl, by rw [show ((0 : Nat) : Int) = 0 from rfl, NZ.out], rfl, rfl⟩
  case round =>
    obtain ⟨j, hj, rfl, rfl, rfl⟩ := hrel
    by_cases hlt : j < k
    · have hr := NR.out j
      have hm := hide (NM.out j)
      have NX := hide (NX.out _ hr.1 hr.2)
      have ne := NE.out j hlt
      obtain ⟨x, hx⟩ : ∃ x, Rg.step n d a j = x := ⟨_, rfl⟩
      rw [hx] at NX hm ne ⊢
      have ne' : (x == b) = false := by simpa using ne
      clear hx ne
      go_wp2_with fail
      refine NX.out.mono ?_
      rintro e w' ⟨rfl, rfl⟩
      go_wp2_with fail
      go_roundg (gk - 1)
      case measure => omega
      case rel => exact ⟨j + 1, by omega, by rw [hm.out]; rfl, by go_num, rfl⟩
    · obtain rfl : j = k := by omega
      rw [SD.out]
      go_wp2_with fail
      go_ret
      exact ⟨rfl, rfl⟩
set_option maxHeartbeats 2000000 in
theorem rdist_any (n d a b : Int) (w : World) (hd : 0 ≤ d) :
    Calls Tryd.prog 31 #[.int .i64 n, .int .u8 d, .int .i64 a, .int .i64 b] w fun e w' => e = .returned (.int .i64 (Rg.dist n d a b)) ∧ w = w' := by
  have HI := hide (ris_any n d w hd)
  cases r : Rg.ringB n d with
  | false =>
    have E := hide (show Rg.dist n d a b = -1 by rw [Rg.dist, r]; rfl)
    rw [r] at HI
    clear r
    go_enter Tryd.func31, Tryd.ntmps31
    go_wp2_with fail
    refine HI.out.mono ?_
    rintro e w' ⟨rfl, rfl⟩
    go_wp2_with fail
    go_ret
    exact ⟨ret_int E.out.symm, rfl⟩
  | true =>
    obtain ⟨h1, h2, h3⟩ := ring_out r
    cases q : Rg.nodeB n a && Rg.nodeB n b with
    | true =>
      rw [Bool.and_eq_true] at q
      obtain ⟨h4, h5⟩ := node_out q.1
      obtain ⟨h6, h7⟩ := node_out q.2
      exact rdist_good n d a b w h1 h2 (by omega) h4 h5 h6 h7
    | false =>
      have E := hide (show Rg.dist n d a b = -1 by rw [Rg.dist, r, Bool.true_and, q]; rfl)
      rw [r] at HI
      clear r
      have hq : a < 0 ∨ (0 ≤ a ∧ n ≤ a) ∨ (0 ≤ a ∧ a < n ∧ b < 0) ∨ (0 ≤ a ∧ a < n ∧ 0 ≤ b ∧ n ≤ b) := by simp [Rg.nodeB] at q; omega
      clear q
      rcases hq with hq | ⟨hq, hq'⟩ | ⟨hq, hq', hr⟩ | ⟨hq, hq', hr, hr'⟩
      · have d1 : decide (a < 0) = true := decide_eq_true hq
        go_enter Tryd.func31, Tryd.ntmps31
        go_wp2_with fail
        refine HI.out.mono ?_
        rintro e w' ⟨rfl, rfl⟩
        go_wp2_with fail
        go_ret
        exact ⟨ret_int E.out.symm, rfl⟩
      · have d1 : decide (a < 0) = false := decide_eq_false (by omega)
        have d2 : decide (n ≤ a) = true := decide_eq_true hq'
        go_enter Tryd.func31, Tryd.ntmps31
        go_wp2_with fail
        refine HI.out.mono ?_
        rintro e w' ⟨rfl, rfl⟩
        go_wp2_with fail
        go_ret
        exact ⟨ret_int E.out.symm, rfl⟩
      · have d1 : decide (a < 0) = false := decide_eq_false (by omega)
        have d2 : decide (n ≤ a) = false := decide_eq_false (by omega)
        have d3 : decide (b < 0) = true := decide_eq_true hr
        go_enter Tryd.func31, Tryd.ntmps31
        go_wp2_with fail
        refine HI.out.mono ?_
        rintro e w' ⟨rfl, rfl⟩
        go_wp2_with fail
        go_ret
        exact ⟨ret_int E.out.symm, rfl⟩
      · have d1 : decide (a < 0) = false := decide_eq_false (by omega)
        have d2 : decide (n ≤ a) = false := decide_eq_false (by omega)
        have d3 : decide (b < 0) = false := decide_eq_false (by omega)
        have d4 : decide (n ≤ b) = true := decide_eq_true hr'
        go_enter Tryd.func31, Tryd.ntmps31
        go_wp2_with fail
        refine HI.out.mono ?_
        rintro e w' ⟨rfl, rfl⟩
        go_wp2_with fail
        go_ret
        exact ⟨ret_int E.out.symm, rfl⟩
end Go.Proofs.YtbniijmabebhoaaDoor
