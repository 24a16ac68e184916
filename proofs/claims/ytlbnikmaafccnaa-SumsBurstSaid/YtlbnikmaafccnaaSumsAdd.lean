/- The register's add: a byte is fed. -/
import Derived.Test.YtlbnikmaafccnaaProg
import Derived.Test.YtlbnikmaafccnaaLineWords
import Derived.Test.YtlbnikmaafccnaaSumsLong
import Derived.WalkLawsBesides
import Derived.Outline
import Derived.IntWalk
import Derived.Deep.LoopGhost
import Derived.Laws.BitsAllLaws
namespace Go.Proofs.Ytlbnikmaafccnaa
open Go.RowKit Sm
set_option linter.unusedVariables false
theorem and_top_no (s : Nat) (h : s < 2147483648) : bits .and .u32 (s : Int) 2147483648 = 0 := by
  have := u32_and_nat s 2147483648 (by omega) (by decide)
  rw [show ((2147483648 : Nat) : Int) = 2147483648 from rfl] at this
  rw [this]
  have : s &&& 2147483648 = 0 := by
    apply Nat.eq_of_testBit_eq
    intro j
    rw [Nat.testBit_and, show 2147483648 = 2 ^ 31 from rfl, Nat.testBit_two_pow]
    by_cases hj : 31 = j
    · subst hj
      rw [Nat.testBit_lt_two_pow h]; simp
    · simp [hj]
  rw [this]; rfl
theorem and_top_yes (s : Nat) (h : s < 4294967296) (h' : 2147483648 ≤ s) : bits .and .u32 (s : Int) 2147483648 = 2147483648 := by
  have := u32_and_nat s 2147483648 h (by decide)
  rw [show ((2147483648 : Nat) : Int) = 2147483648 from rfl] at this
  rw [this]
  have : s &&& 2147483648 = 2147483648 := by
    apply Nat.eq_of_testBit_eq
    intro j
    rw [Nat.testBit_and, show 2147483648 = 2 ^ 31 from rfl, Nat.testBit_two_pow]
    by_cases hj : 31 = j
    · subst hj
      rw [top_iff s h, decide_eq_true h']; simp
    · simp [hj]
  rw [this]; rfl
set_option maxHeartbeats 1000000 in
theorem add_any (B r b : Nat) (w : World) (hr : r < 4294967296) (hb : b < 256) (hB : w.heap[B]? = some (.cells #[.int .u32 r] 88 (0, 0))) :
    Calls Try.prog 47 #[.pointer (some ⟨B, 0, none⟩), .int .u8 b] w fun e w' => e = .returned (.tuple #[]) ∧ w'.heap[B]? = some (.cells #[.int .u32 (feed r b)] 88 (0, 0)) ∧ Far (fun k => k = B) w w' := by
  have c0 : w.cell? ⟨B, 0, none⟩ = some (.int .u32 r) := row_cell hB 0
  have f0 := row_free hB 0
  have e1 : bits .xor .u32 (r : Int) ((b : Int) * 16777216) = ((r ^^^ (b * 16777216) : Nat) : Int) := u32_xor_nat r (b * 16777216) hr (by omega)
  have hx0 := xor_lt r (b * 16777216) hr (by omega)
  have hfe : feed r b = Tn 8 (r ^^^ (b * 16777216)) := rfl
  obtain ⟨x, hx⟩ : ∃ x, r ^^^ (b * 16777216) = x := ⟨_, rfl⟩
  rw [hx] at e1 hx0 hfe
  have HF := hide hfe
  clear hx hfe
  go_enter Try.func47, Try.ntmps47
  go_wp2_with fail
  clear e1
  have h0 := hide (row_set hB 0 (.int .u32 x))
  have F0 := hide ((Far.refl (fun k => k = B) w).setCell (p := ⟨B, 0, none⟩) (.inl rfl) (.int .u32 x))
  clear c0 f0
  go_loopg [13] 8 (fun gk i wr => ∃ (k s : Nat), gk + k = 8 ∧ i = .int .i64 k ∧ s < 4294967296 ∧ Hid (s = Tn k x) ∧ Hid (wr.heap[B]? = some (.cells #[.int .u32 s] 88 (0, 0))) ∧ Hid (Far (fun k => k = B) w wr))
  case atStart => exact ⟨0, _, rfl, rfl, hx0, rfl, h0, F0⟩
  case round =>
    obtain ⟨k, s, hgk, rfl, hs, E, K, F⟩ := hrel
    have c0 : wr.cell? ⟨B, 0, none⟩ = some (.int .u32 s) := row_cell K.out 0
    have f0 : wr.frozen? ⟨B, 0, none⟩ = false := row_free K.out 0
    clear h0 F0 hx0
    by_cases hlt : k < 8
    · have hTl := T_lt s hs
      have ETn := hide (show T s = Tn (k + 1) x from by rw [E.out]; rfl)
      by_cases ht : s < 2147483648
      · have e2 : bits .and .u32 (s : Int) 2147483648 = 0 := and_top_no s ht
        have hT : T s = s * 2 := by unfold T; rw [if_neg (by omega)]; omega
        have HT := hide hT
        have HS := hide (row_set K.out 0 (.int .u32 ((s * 2 : Nat) : Int)))
        clear hT
        go_wp2_with fail
        go_roundg (gk - 1)
        case measure => omega
        case rel => exact ⟨k + 1, s * 2, by omega, by go_num, by omega, by rw [← HT.out]; exact ETn.out, HS.out, F.out.setCell (.inl rfl) _⟩
      · have e2 : bits .and .u32 (s : Int) 2147483648 = 2147483648 := and_top_yes s hs (by omega)
        have hT : T s = (2 * s % 4294967296) ^^^ poly := by unfold T; rw [if_pos (by omega)]
        have e3 : bits .xor .u32 ((s : Int) * 2 % 4294967296) 79764919 = ((T s : Nat) : Int) := by
          rw [hT]
          have h := u32_xor_nat (2 * s % 4294967296) 79764919 (Nat.mod_lt _ (by decide)) (by decide)
          rw [show ((2 * s % 4294967296 : Nat) : Int) = (s : Int) * 2 % 4294967296 from by omega] at h
          exact h
        obtain ⟨y, hy⟩ : ∃ y, T s = y := ⟨_, rfl⟩
        rw [hy] at e3 ETn hTl
        have HS := hide (row_set (row_set K.out 0 (.int .u32 ((s : Int) * 2 % 4294967296))) 0 (.int .u32 y))
        clear hT hy
        go_wp2_with fail
        go_roundg (gk - 1)
        case measure => omega
        case rel => exact ⟨k + 1, y, by omega, by go_num, hTl, ETn.out, HS.out, (F.out.setCell (.inl rfl) _).setCell (.inl rfl) _⟩
    · obtain rfl : k = 8 := by omega
      have HE := hide (show s = feed r b from by rw [HF.out]; exact E.out)
      go_wp2_with fail
      go_end0
      exact ⟨rfl, by rw [← HE.out]; exact K.out, F.out⟩
end Go.Proofs.Ytlbnikmaafccnaa
