/- The contracts of the reference of layer 3: Is, other, next, Step, Distance answer as rings does. -/
import Derived.Test.YtbniijmabebhoaaDoorPlacesLaw
import Derived.Deep.LoopGhost
namespace Go.Proofs.YtbniijmabebhoaaDoor
open Go.RowKit
set_option linter.unusedVariables false
theorem ris_any (n d : Int) (w : World) (hd : 0 ≤ d) : Calls Tryd.prog 55 #[.int .i64 n, .int .u8 d] w fun e w' => e = .returned (.bool (Rg.ringB n d)) ∧ w = w' := by
  go_enter Tryd.func55, Tryd.ntmps55
  go_wp2
  all_goals (go_ret; exact ⟨ret_bool (by unfold Rg.ringB; rw [Bool.eq_iff_iff]; simp; try omega), rfl⟩)
theorem rother_any (d : Int) (w : World) (hd : d = 0 ∨ d = 1) : Calls Tryd.prog 56 #[.int .u8 d] w fun e w' => e = .returned (.int .u8 (1 - d)) ∧ w = w' := by
  rcases hd with rfl | rfl
  all_goals
    go_enter Tryd.func56, Tryd.ntmps56
    go_wp2
    go_ret
    exact ⟨rfl, rfl⟩
theorem step_one (n d a : Int) (hn : 4 ≤ n) (hn' : n ≤ 16) (hd : d = 0 ∨ d = 1) (ha : 0 ≤ a) (ha' : a < n) : Rg.step n d a 1 = if d = 0 then (if a = n - 1 then 0 else a + 1) else (if a = 0 then n - 1 else a - 1) := by
  rw [step_is n d a 1 hn hn' hd ha ha']
  rcases hd with rfl | rfl
  · rw [if_pos rfl, if_pos rfl]
    split
    · rename_i h; rw [show a + 1 = n from by omega, Int.emod_self]
    · exact Int.emod_eq_of_lt (by omega) (by omega)
  · rw [if_neg (by decide), if_neg (by decide)]
    split
    · rename_i h; rw [h, emod_dn n _ (by omega) (by omega)]; omega
    · exact Int.emod_eq_of_lt (by omega) (by omega)
theorem rnext_any (n d a : Int) (w : World) (hn : 4 ≤ n) (hn' : n ≤ 16) (hd : d = 0 ∨ d = 1) (ha : 0 ≤ a) (ha' : a < n) :
    Calls Tryd.prog 57 #[.int .i64 n, .int .u8 d, .int .i64 a] w fun e w' => e = .returned (.int .i64 (Rg.step n d a 1)) ∧ w = w' := by
  have HS := step_one n d a hn hn' hd ha ha'
  rcases hd with rfl | rfl
  · by_cases h : a = n - 1
    · have h' : (a == n - 1) = true := by simpa using h
      have E := hide (show Rg.step n 0 a 1 = 0 by rw [HS, if_pos rfl, if_pos h])
      clear HS h
      go_enter Tryd.func57, Tryd.ntmps57
      go_wp2_with fail
      go_ret
      exact ⟨ret_int E.out.symm, rfl⟩
    · have h' : (a == n - 1) = false := by simpa using h
      have E := hide (show Rg.step n 0 a 1 = a + 1 by rw [HS, if_pos rfl, if_neg h])
      clear HS h
      go_enter Tryd.func57, Tryd.ntmps57
      go_wp2_with fail
      go_ret
      exact ⟨ret_int E.out.symm, rfl⟩
  · by_cases h : a = 0
    · have h' : (a == 0) = true := by simpa using h
      have E := hide (show Rg.step n 1 a 1 = n - 1 by rw [HS, if_neg (by decide), if_pos h])
      clear HS h
      go_enter Tryd.func57, Tryd.ntmps57
      go_wp2_with fail
      go_ret
      exact ⟨ret_int E.out.symm, rfl⟩
    · have h' : (a == 0) = false := by simpa using h
      have E := hide (show Rg.step n 1 a 1 = a - 1 by rw [HS, if_neg (by decide), if_neg h])
      clear HS h
      go_enter Tryd.func57, Tryd.ntmps57
      go_wp2_with fail
      go_ret
      exact ⟨ret_int E.out.symm, rfl⟩
theorem step_zero (n d a : Int) (hn : 4 ≤ n) (hn' : n ≤ 16) (hd : d = 0 ∨ d = 1) (ha : 0 ≤ a) (ha' : a < n) : Rg.step n d a 0 = a := by
  rw [step_is n d a 0 hn hn' hd ha ha']
  split
  · rw [Int.add_zero, Int.emod_eq_of_lt ha ha']
  · rw [Int.sub_zero, Int.emod_eq_of_lt ha ha']
theorem step_more (n d a k : Int) (hn : 4 ≤ n) (hn' : n ≤ 16) (hd : d = 0 ∨ d = 1) (ha : 0 ≤ a) (ha' : a < n) : Rg.step n d (Rg.step n d a k) 1 = Rg.step n d a (k + 1) := by
  obtain ⟨h1, h2⟩ := step_rng n d a k hn hn' hd ha ha'
  rw [step_is n d _ 1 hn hn' hd h1 h2, step_is n d a k hn hn' hd ha ha', step_is n d a (k + 1) hn hn' hd ha ha']
  rcases hd with rfl | rfl
  · simp only [if_true]
    rw [Int.emod_add_emod, Int.add_assoc]
  · simp only [show ¬ (1 : Int) = 0 from by decide, if_false]
    rw [Int.sub_eq_add_neg, Int.emod_add_emod, show a - k + -1 = a - (k + 1) from by omega]
theorem step_tmod (n d a s : Int) (hn : 4 ≤ n) (hn' : n ≤ 16) (hd : d = 0 ∨ d = 1) (ha : 0 ≤ a) (ha' : a < n) : Rg.step n d a (s.tmod n) = Rg.step n d a s := by
  have r : Rg.ringB n d = true := by simp [Rg.ringB]; omega
  have q : Rg.nodeB n a = true := by simp [Rg.nodeB]; omega
  rw [Rg.step, Rg.step, r, q]
  simp only [Bool.and_self, if_true]
  exact step_eq n a s _
theorem step_flip (n d a s : Int) (hn : 4 ≤ n) (hn' : n ≤ 16) (hd : d = 0 ∨ d = 1) (ha : 0 ≤ a) (ha' : a < n) : Rg.step n (1 - d) a (-s) = Rg.step n d a s := by
  rw [step_is n d a s hn hn' hd ha ha', step_is n (1 - d) a (-s) hn hn' (by omega) ha ha']
  rcases hd with rfl | rfl
  · rw [if_neg (by decide), if_pos rfl, show a - -s = a + s from by omega]
  · rw [if_pos (by decide), if_neg (by decide), show a + -s = a - s from by omega]
set_option maxHeartbeats 4000000 in
theorem rstep_good (n d a s : Int) (w : World) (hn : 4 ≤ n) (hn' : n ≤ 16) (hd : d = 0 ∨ d = 1) (ha : 0 ≤ a) (ha' : a < n) :
    Calls Tryd.prog 29 #[.int .i64 n, .int .u8 d, .int .i64 a, .int .i64 s] w fun e w' => e = .returned (.int .i64 (Rg.step n d a s)) ∧ w = w' := by
  have bt := tmod_bd s n (by omega)
  have HI := hide (ris_any n d w (by omega))
  have r : Rg.ringB n d = true := by simp [Rg.ringB]; omega
  rw [r] at HI
  clear r
  obtain ⟨t, ht⟩ : ∃ t, s.tmod n = t := ⟨_, rfl⟩
  have HS := hide (step_tmod n d a s hn hn' hd ha ha')
  rw [ht] at HS bt
  obtain ⟨bt, bt'⟩ := bt
  have n0 : ¬ n = 0 := by omega
  obtain ⟨d', k, hk, hd', ek, hway⟩ : ∃ (d' : Int) (k : Nat), Rg.step n d' a k = Rg.step n d a s ∧ (d' = 0 ∨ d' = 1) ∧ (k : Int) ≤ 16 ∧ ((0 ≤ t ∧ d' = d ∧ t = k) ∨ (t < 0 ∧ d' = 1 - d ∧ t = -(k : Int))) := by
    by_cases h : 0 ≤ t
    · obtain ⟨k, e⟩ := Int.eq_ofNat_of_zero_le h
      exact ⟨d, k, by rw [← e]; exact HS.out, hd, by omega, .inl ⟨h, rfl, e⟩⟩
    · obtain ⟨k, e⟩ := Int.eq_ofNat_of_zero_le (show 0 ≤ -t by omega)
      exact ⟨1 - d, k, by rw [← e, step_flip n d a t hn hn' hd ha ha']; exact HS.out, by omega, by omega, .inr ⟨by omega, rfl, by omega⟩⟩
  have HK := hide hk
  have NX := hide (fun (x : Int) (h1 : 0 ≤ x) (h2 : x < n) => rnext_any n d' x w hn hn' hd' h1 h2)
  have NM := hide (fun (i : Int) => step_more n d' a i hn hn' hd' ha ha')
  have NR := hide (fun (i : Int) => step_rng n d' a i hn hn' hd' ha ha')
  have NZ := hide (step_zero n d' a hn hn' hd' ha ha')
  have OT := hide (rother_any d w hd)
  clear hk
  rcases hway with ⟨h0, hdd, htk⟩ | ⟨h0, hdd, htk⟩
  all_goals
    subst hdd
    subst htk
    go_enter Tryd.func29, Tryd.ntmps29
    go_wp2_with fail
    refine HI.out.mono ?_
    rintro e w' ⟨rfl, rfl⟩
    go_wp2_with fail
  · go_loopg [2, 10] k (fun gk x i wr => ∃ j : Nat, gk + j = k ∧ x = .int .i64 (Rg.step n d' a j) ∧ i = .int .i64 j ∧ wr = w)
    case atStart => exact ⟨0, rfl, by rw [show ((0 : Nat) : Int) = 0 from rfl, NZ.out], rfl, rfl⟩
    case round =>
      obtain ⟨j, hj, rfl, rfl, rfl⟩ := hrel
      by_cases hlt : j < k
      · have hr := NR.out j
        have hm := hide (NM.out j)
        have NX := hide (NX.out _ hr.1 hr.2)
        obtain ⟨x, hx⟩ : ∃ x, Rg.step n d' a j = x := ⟨_, rfl⟩
        rw [hx] at NX hm ⊢
        clear hx
        go_wp2_with fail
        refine NX.out.mono ?_
        rintro e w' ⟨rfl, rfl⟩
        go_wp2_with fail
        go_roundg (gk - 1)
        case measure => omega
        case rel => exact ⟨j + 1, by omega, by rw [hm.out]; rfl, by go_num, rfl⟩
      · obtain rfl : j = k := by omega
        rw [HK.out]
        go_wp2_with fail
        go_ret
        exact ⟨rfl, rfl⟩
  · refine OT.out.mono ?_
    rintro e w' ⟨rfl, rfl⟩
    go_wp2_with fail
    go_loopg [2, 10] k (fun gk x i wr => ∃ j : Nat, gk + j = k ∧ x = .int .i64 (Rg.step n (1 - d) a j) ∧ i = .int .i64 j ∧ wr = w)
    case atStart => exact ⟨0, rfl, by rw [show ((0 : Nat) : Int) = 0 from rfl, NZ.out], rfl, rfl⟩
    case round =>
      obtain ⟨j, hj, rfl, rfl, rfl⟩ := hrel
      by_cases hlt : j < k
      · have hr := NR.out j
        have hm := hide (NM.out j)
        have NX := hide (NX.out _ hr.1 hr.2)
        obtain ⟨x, hx⟩ : ∃ x, Rg.step n (1 - d) a j = x := ⟨_, rfl⟩
        rw [hx] at NX hm ⊢
        clear hx
        go_wp2_with fail
        refine NX.out.mono ?_
        rintro e w' ⟨rfl, rfl⟩
        go_wp2_with fail
        go_roundg (gk - 1)
        case measure => omega
        case rel => exact ⟨j + 1, by omega, by rw [hm.out]; rfl, by go_num, rfl⟩
      · obtain rfl : j = k := by omega
        rw [HK.out]
        go_wp2_with fail
        go_ret
        exact ⟨rfl, rfl⟩
end Go.Proofs.YtbniijmabebhoaaDoor
