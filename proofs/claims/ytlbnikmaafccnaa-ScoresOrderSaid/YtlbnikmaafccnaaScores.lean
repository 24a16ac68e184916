/- Contracts of the functions of layer 21 (scores), of its reference and of its examples: what each returns, as a whole number. -/
import Derived.Test.YtlbnikmaafccnaaProg
import Derived.Test.YtlbnikmaafccnaaBase
import Derived.WalkLawsBesides
import Derived.Outline
namespace Go.Proofs.Ytlbnikmaafccnaa
open Go.RowKit
set_option linter.unusedVariables false
namespace Sc
def pen (n : Int) : Int := min (min n 1000 + 8) 1000
def rew (n : Int) : Int := max (min n 1000) 1 - 1
def lvl (n : Int) : Int := if n < 16 then 0 else if n < 64 then 1 else 2
def upc (n : Int) : Int := min n 99 + 1
def wi (x m : Int) : Int := if x < 0 then 0 else if m < x then m else x
def stp (x : Int) (b : Bool) : Int := if b then rew x else pen x
def run (x : Int) (bs : List Bool) : Int := bs.foldl stp (min x 1000)
theorem pen_bd (n : Int) (h : 0 ≤ n) : 0 ≤ pen n ∧ pen n ≤ 1000 := by unfold pen; omega
theorem rew_bd (n : Int) (h : 0 ≤ n) : 0 ≤ rew n ∧ rew n ≤ 1000 := by unfold rew; omega
theorem stp_bd (n : Int) (b : Bool) (h : 0 ≤ n) : 0 ≤ stp n b ∧ stp n b ≤ 1000 := by unfold stp; split; exact rew_bd n h; exact pen_bd n h
theorem fold_bd (bs : List Bool) : ∀ n : Int, 0 ≤ n → n ≤ 1000 → 0 ≤ bs.foldl stp n ∧ bs.foldl stp n ≤ 1000 := by
  induction bs with
  | nil => intro n h h'; exact ⟨h, h'⟩
  | cons b r ih => intro n h h'; exact ih _ (stp_bd n b h).1 (stp_bd n b h).2
theorem run_bd (x : Int) (bs : List Bool) (h : 0 ≤ x) : 0 ≤ run x bs ∧ run x bs ≤ 1000 := fold_bd bs _ (by omega) (by omega)
theorem run_take (x : Int) (bs : List Bool) (k : Nat) (hk : k < bs.length) : run x (bs.take (k + 1)) = stp (run x (bs.take k)) bs[k] := by
  unfold run
  rw [List.take_succ_eq_append_getElem hk, List.foldl_append]; rfl
theorem run_take_true (x : Int) (bs : List Bool) (k : Nat) (hk : k < bs.length) (h : bs[k] = true) : run x (bs.take (k + 1)) = rew (run x (bs.take k)) := by
  rw [run_take x bs k hk, h]; rfl
theorem run_take_false (x : Int) (bs : List Bool) (k : Nat) (hk : k < bs.length) (h : bs[k] = false) : run x (bs.take (k + 1)) = pen (run x (bs.take k)) := by
  rw [run_take x bs k hk, h]; rfl
end Sc
theorem penalty_any (n : Int) (w : World) (h : 0 ≤ n) (h' : n ≤ 65535) : Calls Try.prog 15 #[.int .u16 n] w fun e w' => e = .returned (.int .u16 (Sc.pen n)) ∧ w = w' := by
  go_enter Try.func15, Try.ntmps15
  go_wp2
  all_goals (go_ret; exact ⟨ret_int (by unfold Sc.pen; omega), rfl⟩)
theorem reward_any (n : Int) (w : World) (h : 0 ≤ n) (h' : n ≤ 65535) : Calls Try.prog 17 #[.int .u16 n] w fun e w' => e = .returned (.int .u16 (Sc.rew n)) ∧ w = w' := by
  go_enter Try.func17, Try.ntmps17
  go_wp2
  all_goals (go_ret; exact ⟨ret_int (by unfold Sc.rew; omega), rfl⟩)
theorem level_any (n : Int) (w : World) (h : 0 ≤ n) (h' : n ≤ 65535) : Calls Try.prog 19 #[.int .u16 n] w fun e w' => e = .returned (.int .u8 (Sc.lvl n)) ∧ w = w' := by
  go_enter Try.func19, Try.ntmps19
  go_wp2
  all_goals (go_ret; exact ⟨ret_int (by unfold Sc.lvl; split <;> (try split) <;> first | rfl | omega), rfl⟩)
theorem up_any (n : Int) (w : World) (h : 0 ≤ n) (h' : n ≤ 255) : Calls Try.prog 21 #[.int .u8 n] w fun e w' => e = .returned (.int .u8 (Sc.upc n)) ∧ w = w' := by
  go_enter Try.func21, Try.ntmps21
  go_wp2
  all_goals (go_ret; exact ⟨ret_int (by unfold Sc.upc; omega), rfl⟩)
theorem within_any (x m : Int) (w : World) : Calls Try.prog 42 #[.int .i64 x, .int .i64 m] w fun e w' => e = .returned (.int .i64 (Sc.wi x m)) ∧ w = w' := by
  go_enter Try.func42, Try.ntmps42
  go_wp2
  all_goals (go_ret; exact ⟨ret_int (by unfold Sc.wi; split <;> (try split) <;> first | rfl | omega), rfl⟩)
theorem wi_pen (n : Int) (h : 0 ≤ n) : Sc.wi (Sc.wi n 1000 + 8) 1000 = Sc.pen n := by unfold Sc.wi Sc.pen; repeat' split <;> omega
theorem wi_rew (n : Int) (h : 0 ≤ n) : Sc.wi (Sc.wi n 1000 - 1) 1000 = Sc.rew n := by unfold Sc.wi Sc.rew; repeat' split <;> omega
theorem wi_bd (n : Int) : 0 ≤ Sc.wi n 1000 ∧ Sc.wi n 1000 ≤ 1000 := by unfold Sc.wi; repeat' split <;> omega
theorem refPenalty_any (n : Int) (w : World) (h : 0 ≤ n) (h' : n ≤ 65535) : Calls Try.prog 16 #[.int .u16 n] w fun e w' => e = .returned (.int .u16 (Sc.pen n)) ∧ w = w' := by
  have b1 := wi_bd n
  have b2 := wi_bd (Sc.wi n 1000 + 8)
  have e := hide (wi_pen n h)
  go_enter Try.func16, Try.ntmps16
  go_wp2_with (go_at_call 42; refine (within_any _ _ _).mono ?_; rintro e w' ⟨rfl, rfl⟩)
  go_ret; exact ⟨ret_int e.out, rfl⟩
theorem refReward_any (n : Int) (w : World) (h : 0 ≤ n) (h' : n ≤ 65535) : Calls Try.prog 18 #[.int .u16 n] w fun e w' => e = .returned (.int .u16 (Sc.rew n)) ∧ w = w' := by
  have b1 := wi_bd n
  have b2 := wi_bd (Sc.wi n 1000 - 1)
  have e := hide (wi_rew n h)
  go_enter Try.func18, Try.ntmps18
  go_wp2_with (go_at_call 42; refine (within_any _ _ _).mono ?_; rintro e w' ⟨rfl, rfl⟩)
  go_ret; exact ⟨ret_int e.out, rfl⟩
theorem refLevel_any (n : Int) (w : World) (h : 0 ≤ n) (h' : n ≤ 65535) : Calls Try.prog 20 #[.int .u16 n] w fun e w' => e = .returned (.int .i64 (Sc.lvl n)) ∧ w = w' := by
  go_enter Try.func20, Try.ntmps20
  go_wp2
  all_goals (go_ret; exact ⟨ret_int (by unfold Sc.lvl; split <;> (try split) <;> first | rfl | omega), rfl⟩)
theorem wi_up (n : Int) (h : 0 ≤ n) : Sc.wi (n + 1) 100 = Sc.upc n := by unfold Sc.wi Sc.upc; repeat' split <;> omega
theorem refUp_any (n : Int) (w : World) (h : 0 ≤ n) (h' : n ≤ 255) : Calls Try.prog 22 #[.int .u8 n] w fun e w' => e = .returned (.int .u8 (Sc.upc n)) ∧ w = w' := by
  have e := hide (wi_up n h)
  have b : 0 ≤ Sc.wi (n + 1) 100 ∧ Sc.wi (n + 1) 100 ≤ 100 := by unfold Sc.wi; repeat' split <;> omega
  go_enter Try.func22, Try.ntmps22
  go_wp2_with (go_at_call 42; refine (within_any _ _ _).mono ?_; rintro e w' ⟨rfl, rfl⟩)
  go_ret; exact ⟨ret_int e.out, rfl⟩
set_option maxHeartbeats 400000 in
theorem run_any (n : Int) (A : Option Addr) (bs : List Bool) (len cap : Nat) (w : World) (h : 0 ≤ n) (h' : n ≤ 65535) (hl : bs.length = len) (hs : len ≤ 1000) (hr : Sl w w.heap.size A (bs.map .bool)) :
    Calls Try.prog 23 #[.int .u16 n, .slice A len cap] w fun e w' => e = .returned (.int .u16 (Sc.run n bs)) ∧ w = w' := by
  have HL := hide hl
  have HR := hide hr
  clear hl hr
  have hn : 1000 < n ∨ n ≤ 1000 := by omega
  go_enter Try.func23, Try.ntmps23
  rcases hn with hn | hn
  all_goals
    go_wp2
    go_loop [0, 6, 11] (fun s _ i => ∃ k : Nat, k ≤ len ∧ i = .int .i64 k ∧ s = .int .u16 (Sc.run n (bs.take k))) (fun _ _ i => len - (intOf i).toNat)
    case atStart => exact ⟨0, Nat.zero_le _, rfl, by simp [Sc.run]; omega⟩
    case round =>
      obtain ⟨k, hk, rfl, rfl⟩ := hrel
      have hb := Sc.run_bd n (bs.take k) h
      by_cases hlt : k < len
      · obtain ⟨ad, rfl, _, hc⟩ := HR.out.at_ (k := k) (by simpa [HL.out] using hlt)
        have hkl : k < bs.length := by rw [HL.out]; exact hlt
        rw [List.getElem_map] at hc
        cases hbk : bs[k] with
        | true =>
          have e := hide (Sc.run_take_true n bs k hkl hbk)
          rw [hbk] at hc
          clear hbk
          go_wp2_with (go_at_call 17; refine (reward_any _ _ (by omega) (by omega)).mono ?_; rintro e w' ⟨rfl, rfl⟩)
          go_round
          case rel => exact ⟨k + 1, by omega, by go_num, by rw [e.out]⟩
          case measure => simp [intOf]; omega
        | false =>
          have e := hide (Sc.run_take_false n bs k hkl hbk)
          rw [hbk] at hc
          clear hbk
          go_wp2_with (go_at_call 15; refine (penalty_any _ _ (by omega) (by omega)).mono ?_; rintro e w' ⟨rfl, rfl⟩)
          go_round
          case rel => exact ⟨k + 1, by omega, by go_num, by rw [e.out]⟩
          case measure => simp [intOf]; omega
      · go_wp2
        go_ret
        exact ⟨ret_int (by rw [List.take_of_length_le (by rw [HL.out]; omega)]), rfl⟩
theorem wi_run (n : Int) (bs : List Bool) (k : Nat) (h : 0 ≤ n) (hk : k < bs.length) (hb : bs[k] = true) : Sc.wi (Sc.run n (bs.take k) - 1) 1000 = Sc.run n (bs.take (k + 1)) := by
  have := Sc.run_bd n (bs.take k) h
  rw [Sc.run_take_true n bs k hk hb]; unfold Sc.wi Sc.rew; repeat' split <;> omega
theorem wi_run' (n : Int) (bs : List Bool) (k : Nat) (h : 0 ≤ n) (hk : k < bs.length) (hb : bs[k] = false) : Sc.wi (Sc.run n (bs.take k) + 8) 1000 = Sc.run n (bs.take (k + 1)) := by
  have := Sc.run_bd n (bs.take k) h
  rw [Sc.run_take_false n bs k hk hb]; unfold Sc.wi Sc.pen; repeat' split <;> omega
theorem wi_run0 (n : Int) (h : 0 ≤ n) : Sc.wi n 1000 = Sc.run n [] := by unfold Sc.wi Sc.run; simp; repeat' split <;> omega
set_option maxHeartbeats 400000 in
theorem refRun_any (n : Int) (A : Option Addr) (bs : List Bool) (len cap : Nat) (w : World) (h : 0 ≤ n) (h' : n ≤ 65535) (hl : bs.length = len) (hs : len ≤ 1000) (hr : Sl w w.heap.size A (bs.map .bool)) :
    Calls Try.prog 24 #[.int .u16 n, .slice A len cap] w fun e w' => e = .returned (.int .u16 (Sc.run n bs)) ∧ w = w' := by
  have HL := hide hl
  have HR := hide hr
  have e0 := hide (wi_run0 n h)
  clear hl hr
  go_enter Try.func24, Try.ntmps24
  go_wp2_with (go_at_call 42; refine (within_any _ _ _).mono ?_; rintro e w' ⟨rfl, rfl⟩)
  go_loop [5, 6] (fun s i => ∃ k : Nat, k ≤ len ∧ i = .int .i64 k ∧ s = .int .i64 (Sc.run n (bs.take k))) (fun _ i => len - (intOf i).toNat)
  case atStart => exact ⟨0, Nat.zero_le _, rfl, by rw [e0.out]; simp⟩
  case round =>
    obtain ⟨k, hk, rfl, rfl⟩ := hrel
    have hb := Sc.run_bd n (bs.take k) h
    by_cases hlt : k < len
    · obtain ⟨ad, rfl, _, hc⟩ := HR.out.at_ (k := k) (by simpa [HL.out] using hlt)
      have hkl : k < bs.length := by rw [HL.out]; exact hlt
      rw [List.getElem_map] at hc
      cases hbk : bs[k] with
      | true =>
        have e := hide (wi_run n bs k h hkl hbk)
        rw [hbk] at hc
        clear hbk
        go_wp2_with (go_at_call 42; refine (within_any _ _ _).mono ?_; rintro e w' ⟨rfl, rfl⟩)
        go_round
        case rel => exact ⟨k + 1, by omega, by go_num, by rw [e.out]⟩
        case measure => simp [intOf]; omega
      | false =>
        have e := hide (wi_run' n bs k h hkl hbk)
        rw [hbk] at hc
        clear hbk
        go_wp2_with (go_at_call 42; refine (within_any _ _ _).mono ?_; rintro e w' ⟨rfl, rfl⟩)
        go_round
        case rel => exact ⟨k + 1, by omega, by go_num, by rw [e.out]⟩
        case measure => simp [intOf]; omega
    · go_wp2
      go_ret
      exact ⟨ret_int (by rw [List.take_of_length_le (by rw [HL.out]; omega)]), rfl⟩
theorem scLives_any (w : World) : Calls Try.prog 14 #[] w fun e w' => e = .returned (.bool true) ∧ w' = w.alloc (.cells #[.bool false, .bool true, .bool true] 4) := by
  have HR := hide (fun o => Sl.new w #[.bool false, .bool true, .bool true] 4 o ([false, true, true].map .bool) rfl)
  have e : Sc.run 0 [false, true, true] = 6 := by decide
  go_enter Try.func14, Try.ntmps14
  go_wp2_with (first | (go_at_call 23; refine (run_any 0 _ [false, true, true] 3 3 _ (by omega) (by omega) rfl (by omega) (HR.out _)).mono ?_; rintro e w' ⟨rfl, rfl⟩) | go_in)
  go_ret
  exact ⟨rfl, rfl⟩
end Go.Proofs.Ytlbnikmaafccnaa
