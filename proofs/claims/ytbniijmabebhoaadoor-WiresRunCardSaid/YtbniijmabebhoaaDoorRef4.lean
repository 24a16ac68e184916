/- The reference's Source and Link, at all arguments. -/
import Derived.Test.YtbniijmabebhoaaDoorRef3
namespace Go.Proofs.YtbniijmabebhoaaDoor
open Go.RowKit
set_option linter.unusedVariables false
/-- Link number k is the one that Source seeks; that Link seeks. -/
def condS (n d a h k : Int) : Prop := 0 ≤ Rg.eFrom n k ∧ Rg.eTo n k = a ∧ Rg.eDir n k = d ∧ Rg.eHop n k = h
def condL (n d a h k : Int) : Prop := 0 ≤ Rg.eFrom n k ∧ Rg.eFrom n k = a ∧ Rg.eDir n k = d ∧ Rg.eHop n k = h
theorem ends_of_from {n k : Int} (h : 0 ≤ Rg.eFrom n k) : Rg.endsB n k = true := by
  cases e : Rg.endsB n k with
  | true => rfl
  | false => simp [Rg.eFrom, e] at h
theorem ends_rng {n k : Int} (h : Rg.endsB n k = true) : 4 ≤ n ∧ n ≤ 16 ∧ 0 ≤ k ∧ k < 4 * n := by simp [Rg.endsB] at h; omega
theorem src_found {n d a h k : Int} (c : condS n d a h k) : Rg.src n d a h = Rg.eFrom n k := by
  obtain ⟨c1, c2, c3, c4⟩ := c
  have e := ends_of_from c1
  obtain ⟨h1, h2, h3, h4⟩ := ends_rng e
  have hop : Rg.hopB h = true := by
    simp only [Rg.eHop, e, if_true] at c4
    rcases (show h = 1 ∨ h = 2 by omega) with rfl | rfl <;> rfl
  simp only [Rg.eFrom, Rg.eTo, Rg.eDir, Rg.eHop, e, if_true] at *
  subst c3
  subst c4
  rw [← c2, Rg.src, hop, if_pos rfl]
  exact step_back n _ _ _ h1 h2 (by omega) (by omega) (by omega)
theorem src_none {n d a h : Int} (hd : 0 ≤ d) (c : ∀ k : Nat, k < 64 → ¬ condS n d a h k) : Rg.src n d a h = -1 := by
  cases hop : Rg.hopB h with
  | false => rw [Rg.src, hop]; rfl
  | true =>
    rw [Rg.src, hop, if_pos rfl]
    cases rq : Rg.ringB n d && Rg.nodeB n a with
    | false => rw [Rg.step, if_neg (by rw [rq]; simp)]
    | true =>
      exfalso
      rw [Bool.and_eq_true] at rq
      obtain ⟨h1, h2, h3⟩ := ring_out rq.1
      obtain ⟨h4, h5⟩ := node_out rq.2
      have hh : h = 1 ∨ h = 2 := by simpa [Rg.hopB] using hop
      obtain ⟨f0, f1⟩ := step_rng n d a (-h) h1 h2 (by omega) h4 h5
      have fb := step_back n d a (-h) h1 h2 (by omega) h4 h5
      rw [Int.neg_neg] at fb
      obtain ⟨f, hf⟩ := Int.eq_ofNat_of_zero_le f0
      obtain ⟨dn, hdn⟩ := Int.eq_ofNat_of_zero_le hd
      obtain ⟨hn, hhn⟩ := Int.eq_ofNat_of_zero_le (show 0 ≤ h - 1 by omega)
      have hh' : h = hn + 1 := by omega
      rw [hf] at fb f1
      have hv := endsV_at n f dn hn h1 h2 f1 (by omega) (by omega)
      refine c (4 * f + 2 * dn + hn) (by omega) ?_
      simp only [endsV, Value.tuple.injEq] at hv
      have hv := congrArg Array.toList hv
      simp only [List.cons.injEq, Value.int.injEq, true_and, and_true] at hv
      obtain ⟨v1, v2, v3, v4⟩ := hv
      have ek : ((4 * f + 2 * dn + hn : Nat) : Int) = 4 * (f : Int) + 2 * dn + hn := by omega
      refine ⟨by rw [ek, v1]; omega, ?_, by rw [ek, v3]; omega, by rw [ek, v4]; omega⟩
      rw [ek, v2, ← hh', ← hdn]
      exact fb
theorem link_found {n d a h k : Int} (c : condL n d a h k) : Rg.link n d a h = k := by
  obtain ⟨c1, c2, c3, c4⟩ := c
  have e := ends_of_from c1
  obtain ⟨h1, h2, h3, h4⟩ := ends_rng e
  simp only [Rg.eFrom, Rg.eDir, Rg.eHop, e, if_true] at *
  have hop : Rg.hopB h = true := by rcases (show h = 1 ∨ h = 2 by omega) with rfl | rfl <;> rfl
  have r : Rg.ringB n d = true := by simp [Rg.ringB]; omega
  have q : Rg.nodeB n a = true := by simp [Rg.nodeB]; omega
  rw [Rg.link, r, q, hop]
  simp
  omega
theorem link_none {n d a h : Int} (hd : 0 ≤ d) (c : ∀ k : Nat, k < 64 → ¬ condL n d a h k) : Rg.link n d a h = -1 := by
  unfold Rg.link
  cases rq : Rg.ringB n d && Rg.nodeB n a && Rg.hopB h with
  | false => rfl
  | true =>
    exfalso
    rw [Bool.and_eq_true, Bool.and_eq_true] at rq
    obtain ⟨h1, h2, h3⟩ := ring_out rq.1.1
    obtain ⟨h4, h5⟩ := node_out rq.1.2
    have hh : h = 1 ∨ h = 2 := by simpa [Rg.hopB] using rq.2
    obtain ⟨f, hf⟩ := Int.eq_ofNat_of_zero_le h4
    obtain ⟨dn, hdn⟩ := Int.eq_ofNat_of_zero_le hd
    obtain ⟨hn, hhn⟩ := Int.eq_ofNat_of_zero_le (show 0 ≤ h - 1 by omega)
    have hv := endsV_at n f dn hn h1 h2 (by omega) (by omega) (by omega)
    refine c (4 * f + 2 * dn + hn) (by omega) ?_
    simp only [endsV, Value.tuple.injEq] at hv
    have hv := congrArg Array.toList hv
    simp only [List.cons.injEq, Value.int.injEq, true_and, and_true] at hv
    obtain ⟨v1, v2, v3, v4⟩ := hv
    have ek : ((4 * f + 2 * dn + hn : Nat) : Int) = 4 * (f : Int) + 2 * dn + hn := by omega
    exact ⟨by rw [ek, v1]; omega, by rw [ek, v1]; omega, by rw [ek, v3]; omega, by rw [ek, v4]; omega⟩
set_option maxHeartbeats 4000000 in
theorem rsrc_any (n d a h : Int) (w : World) (hd : 0 ≤ d) : Calls Tryd.prog 36 #[.int .i64 n, .int .u8 d, .int .i64 a, .int .i64 h] w fun e w' => e = .returned (.int .i64 (Rg.src n d a h)) ∧ w = w' := by
  have FN := hide (fun (k : Int) (c : condS n d a h k) => src_found c)
  have NO := hide (fun (c : ∀ k : Nat, k < 64 → ¬ condS n d a h k) => src_none hd c)
  have EN := hide (fun (k : Int) => rends_any n k w)
  go_enter Tryd.func36, Tryd.ntmps36
  go_wp2_with fail
  go_loopg [9] 64 (fun gk i wr => ∃ k : Nat, gk + k = 64 ∧ i = .int .i64 k ∧ Hid (∀ j : Nat, j < k → ¬ condS n d a h j) ∧ w = wr)
  case atStart => exact ⟨0, rfl, rfl, fun j hj => by omega, rfl⟩
  case round =>
    obtain ⟨k, hgk, rfl, HN, rfl⟩ := hrel
    by_cases hlt : k < 64
    · have EN := hide (EN.out k)
      have FN := hide (FN.out k)
      have NX := hide (fun (c : ¬ condS n d a h k) => show Hid (∀ j : Nat, j < k + 1 → ¬ condS n d a h j) from fun j hj => by
        rcases Nat.lt_or_ge j k with h1 | h1
        · exact HN.out j h1
        · obtain rfl : j = k := by omega
          exact c)
      unfold endsV at EN
      unfold condS at FN NX
      obtain ⟨x, hx⟩ : ∃ x, Rg.eFrom n k = x := ⟨_, rfl⟩
      obtain ⟨y, hy⟩ : ∃ y, Rg.eTo n k = y := ⟨_, rfl⟩
      obtain ⟨z, hz⟩ : ∃ z, Rg.eDir n k = z := ⟨_, rfl⟩
      obtain ⟨t, ht⟩ : ∃ t, Rg.eHop n k = t := ⟨_, rfl⟩
      rw [hx, hy, hz, ht] at EN
      rw [hx, hy, hz, ht] at FN
      clear HN NO
      by_cases c1 : 0 ≤ x
      · have q1 : decide (0 ≤ x) = true := decide_eq_true c1
        by_cases c2 : y = a
        · have q2 : (y == a) = true := by simpa using c2
          by_cases c3 : z = d
          · have q3 : (z == d) = true := by simpa using c3
            by_cases c4 : t = h
            · have q4 : (t == h) = true := by simpa using c4
              have R := hide (FN.out ⟨c1, c2, c3, c4⟩)
              clear c2 c3 c4 hx hy hz ht FN NX
              go_wp2_with fail
              refine EN.out.mono ?_
              rintro e w' ⟨rfl, rfl⟩
              go_wp2_with fail
              go_ret
              exact ⟨ret_int R.out.symm, rfl⟩
            · have q4 : (t == h) = false := by simpa using c4
              have NZ := NX.out (fun c => c4 (ht ▸ c.2.2.2))
              clear c2 c3 c4 hx hy hz ht FN NX
              go_wp2_with fail
              refine EN.out.mono ?_
              rintro e w' ⟨rfl, rfl⟩
              go_wp2_with fail
              go_roundg (gk - 1)
              case measure => omega
              case rel => exact ⟨k + 1, by omega, by go_num, NZ, rfl⟩
          · have q3 : (z == d) = false := by simpa using c3
            have NZ := NX.out (fun c => c3 (hz ▸ c.2.2.1))
            clear c2 c3 hx hy hz ht FN NX
            go_wp2_with fail
            refine EN.out.mono ?_
            rintro e w' ⟨rfl, rfl⟩
            go_wp2_with fail
            go_roundg (gk - 1)
            case measure => omega
            case rel => exact ⟨k + 1, by omega, by go_num, NZ, rfl⟩
        · have q2 : (y == a) = false := by simpa using c2
          have NZ := NX.out (fun c => c2 (hy ▸ c.2.1))
          clear c2 hx hy hz ht FN NX
          go_wp2_with fail
          refine EN.out.mono ?_
          rintro e w' ⟨rfl, rfl⟩
          go_wp2_with fail
          go_roundg (gk - 1)
          case measure => omega
          case rel => exact ⟨k + 1, by omega, by go_num, NZ, rfl⟩
      · have q1 : decide (0 ≤ x) = false := decide_eq_false c1
        have NZ := NX.out (fun c => c1 (hx ▸ c.1))
        clear hx hy hz ht FN NX
        go_wp2_with fail
        refine EN.out.mono ?_
        rintro e w' ⟨rfl, rfl⟩
        go_wp2_with fail
        go_roundg (gk - 1)
        case measure => omega
        case rel => exact ⟨k + 1, by omega, by go_num, NZ, rfl⟩
    · obtain rfl : k = 64 := by omega
      have R := hide (NO.out HN.out)
      go_wp2_with fail
      go_ret
      exact ⟨ret_int R.out.symm, rfl⟩
set_option maxHeartbeats 4000000 in
theorem rlink_any (n d a h : Int) (w : World) (hd : 0 ≤ d) : Calls Tryd.prog 38 #[.int .i64 n, .int .u8 d, .int .i64 a, .int .i64 h] w fun e w' => e = .returned (.int .i64 (Rg.link n d a h)) ∧ w = w' := by
  have FN := hide (fun (k : Int) (c : condL n d a h k) => link_found c)
  have NO := hide (fun (c : ∀ k : Nat, k < 64 → ¬ condL n d a h k) => link_none hd c)
  have EN := hide (fun (k : Int) => rends_any n k w)
  go_enter Tryd.func38, Tryd.ntmps38
  go_wp2_with fail
  go_loopg [9] 64 (fun gk i wr => ∃ k : Nat, gk + k = 64 ∧ i = .int .i64 k ∧ Hid (∀ j : Nat, j < k → ¬ condL n d a h j) ∧ w = wr)
  case atStart => exact ⟨0, rfl, rfl, fun j hj => by omega, rfl⟩
  case round =>
    obtain ⟨k, hgk, rfl, HN, rfl⟩ := hrel
    by_cases hlt : k < 64
    · have EN := hide (EN.out k)
      have FN := hide (FN.out k)
      have NX := hide (fun (c : ¬ condL n d a h k) => show Hid (∀ j : Nat, j < k + 1 → ¬ condL n d a h j) from fun j hj => by
        rcases Nat.lt_or_ge j k with h1 | h1
        · exact HN.out j h1
        · obtain rfl : j = k := by omega
          exact c)
      unfold endsV at EN
      unfold condL at FN NX
      obtain ⟨x, hx⟩ : ∃ x, Rg.eFrom n k = x := ⟨_, rfl⟩
      obtain ⟨y, hy⟩ : ∃ y, Rg.eTo n k = y := ⟨_, rfl⟩
      obtain ⟨z, hz⟩ : ∃ z, Rg.eDir n k = z := ⟨_, rfl⟩
      obtain ⟨t, ht⟩ : ∃ t, Rg.eHop n k = t := ⟨_, rfl⟩
      rw [hx, hy, hz, ht] at EN
      rw [hx, hz, ht] at FN
      clear HN NO
      by_cases c1 : 0 ≤ x
      · have q1 : decide (0 ≤ x) = true := decide_eq_true c1
        by_cases c2 : x = a
        · have q2 : (x == a) = true := by simpa using c2
          by_cases c3 : z = d
          · have q3 : (z == d) = true := by simpa using c3
            by_cases c4 : t = h
            · have q4 : (t == h) = true := by simpa using c4
              have R := hide (FN.out ⟨c1, c2, c3, c4⟩)
              clear c2 c3 c4 hx hy hz ht FN NX
              go_wp2_with fail
              refine EN.out.mono ?_
              rintro e w' ⟨rfl, rfl⟩
              go_wp2_with fail
              go_ret
              exact ⟨ret_int R.out.symm, rfl⟩
            · have q4 : (t == h) = false := by simpa using c4
              have NZ := NX.out (fun c => c4 (ht ▸ c.2.2.2))
              clear c2 c3 c4 hx hy hz ht FN NX
              go_wp2_with fail
              refine EN.out.mono ?_
              rintro e w' ⟨rfl, rfl⟩
              go_wp2_with fail
              go_roundg (gk - 1)
              case measure => omega
              case rel => exact ⟨k + 1, by omega, by go_num, NZ, rfl⟩
          · have q3 : (z == d) = false := by simpa using c3
            have NZ := NX.out (fun c => c3 (hz ▸ c.2.2.1))
            clear c2 c3 hx hy hz ht FN NX
            go_wp2_with fail
            refine EN.out.mono ?_
            rintro e w' ⟨rfl, rfl⟩
            go_wp2_with fail
            go_roundg (gk - 1)
            case measure => omega
            case rel => exact ⟨k + 1, by omega, by go_num, NZ, rfl⟩
        · have q2 : (x == a) = false := by simpa using c2
          have NZ := NX.out (fun c => c2 (hx ▸ c.2.1))
          clear c2 hx hy hz ht FN NX
          go_wp2_with fail
          refine EN.out.mono ?_
          rintro e w' ⟨rfl, rfl⟩
          go_wp2_with fail
          go_roundg (gk - 1)
          case measure => omega
          case rel => exact ⟨k + 1, by omega, by go_num, NZ, rfl⟩
      · have q1 : decide (0 ≤ x) = false := decide_eq_false c1
        have NZ := NX.out (fun c => c1 (hx ▸ c.1))
        clear hx hy hz ht FN NX
        go_wp2_with fail
        refine EN.out.mono ?_
        rintro e w' ⟨rfl, rfl⟩
        go_wp2_with fail
        go_roundg (gk - 1)
        case measure => omega
        case rel => exact ⟨k + 1, by omega, by go_num, NZ, rfl⟩
    · obtain rfl : k = 64 := by omega
      have R := hide (NO.out HN.out)
      go_wp2_with fail
      go_ret
      exact ⟨ret_int R.out.symm, rfl⟩
end Go.Proofs.YtbniijmabebhoaaDoor
