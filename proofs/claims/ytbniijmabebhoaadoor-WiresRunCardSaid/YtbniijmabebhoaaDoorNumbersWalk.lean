/- The walk of RingsNumbers: every link's number names its two ends; nothing that was there has turned. -/
import Derived.Test.YtbniijmabebhoaaDoorRoundWalk
namespace Go.Proofs.YtbniijmabebhoaaDoor
open Go.RowKit
set_option linter.unusedVariables false
theorem step_is (n d a s : Int) (hn : 4 ≤ n) (hn' : n ≤ 16) (hd : d = 0 ∨ d = 1) (ha : 0 ≤ a) (ha' : a < n) : Rg.step n d a s = (if d = 0 then a + s else a - s) % n := by
  have r : Rg.ringB n d = true := by simp [Rg.ringB]; omega
  have q : Rg.nodeB n a = true := by simp [Rg.nodeB]; omega
  rw [Rg.step, r, q]
  rcases hd with rfl | rfl <;> simp [Rg.sg]
  rfl
theorem emod_rng (x n : Int) (h : 0 < n) : 0 ≤ x % n ∧ x % n < n := ⟨Int.emod_nonneg _ (by omega), Int.emod_lt_of_pos _ h⟩
theorem step_rng (n d a s : Int) (hn : 4 ≤ n) (hn' : n ≤ 16) (hd : d = 0 ∨ d = 1) (ha : 0 ≤ a) (ha' : a < n) : 0 ≤ Rg.step n d a s ∧ Rg.step n d a s < n := by
  rw [step_is n d a s hn hn' hd ha ha']; exact emod_rng _ _ (by omega)
theorem step_back (n d a s : Int) (hn : 4 ≤ n) (hn' : n ≤ 16) (hd : d = 0 ∨ d = 1) (ha : 0 ≤ a) (ha' : a < n) : Rg.step n d (Rg.step n d a s) (-s) = a := by
  obtain ⟨h1, h2⟩ := step_rng n d a s hn hn' hd ha ha'
  rw [step_is n d _ (-s) hn hn' hd h1 h2, step_is n d a s hn hn' hd ha ha']
  rcases hd with rfl | rfl
  · simp only [if_true]
    rw [Int.emod_add_emod, show a + s + -s = a from by omega, Int.emod_eq_of_lt ha ha']
  · simp only [show ¬ (1 : Int) = 0 from by decide, if_false]
    rw [show (a - s) % n - -s = (a - s) % n + s from by omega, Int.emod_add_emod, show a - s + s = a from by omega, Int.emod_eq_of_lt ha ha']
theorem emod_up (n x : Int) (h : n ≤ x) (h' : x < 2 * n) : x % n = x - n := by
  rw [← Int.sub_emod_right, Int.emod_eq_of_lt (by omega) (by omega)]
theorem emod_dn (n x : Int) (h : -n ≤ x) (h' : x < 0) : x % n = x + n := by
  rw [← Int.add_emod_right, Int.emod_eq_of_lt (by omega) (by omega)]
theorem step_ne (n d a s : Int) (hn : 4 ≤ n) (hn' : n ≤ 16) (hd : d = 0 ∨ d = 1) (ha : 0 ≤ a) (ha' : a < n) (hs : s = 1 ∨ s = 2) : ¬ a = Rg.step n d a s := by
  rw [step_is n d a s hn hn' hd ha ha']
  intro h
  have e : ∀ x : Int, x % n = a → x = a + s ∨ x = a - s → False := fun x hx hc => by
    rcases (show x < 0 ∨ (0 ≤ x ∧ x < n) ∨ n ≤ x from by omega) with h1 | ⟨h1, h2⟩ | h1
    · rw [emod_dn n x (by omega) h1] at hx; omega
    · rw [Int.emod_eq_of_lt h1 h2] at hx; omega
    · rw [emod_up n x h1 (by omega)] at hx; omega
  exact e _ h.symm (by split <;> omega)
structure NumLaw (n k f t d h : Int) : Prop where
  dz : 0 ≤ d
  lk : Rg.link n d f h = k
  sr : Rg.src n d t h = f
  st : Rg.step n d f h = t
  ne : ¬ f = t
theorem num_law (n k : Int) (hn : 4 ≤ n) (hn' : n ≤ 16) (hk : 0 ≤ k) (hk' : k < 4 * n) : NumLaw n k (k / 4) (Rg.step n (k % 4 / 2) (k / 4) (k % 2 + 1)) (k % 4 / 2) (k % 2 + 1) := by
  have hd : k % 4 / 2 = 0 ∨ k % 4 / 2 = 1 := by omega
  have hh : k % 2 + 1 = 1 ∨ k % 2 + 1 = 2 := by omega
  have hop : Rg.hopB (k % 2 + 1) = true := by rcases hh with h | h <;> rw [h] <;> rfl
  have r : Rg.ringB n (k % 4 / 2) = true := by simp [Rg.ringB]; omega
  have q : Rg.nodeB n (k / 4) = true := by simp [Rg.nodeB]; omega
  refine ⟨by omega, ?_, ?_, rfl, step_ne n _ _ _ hn hn' hd (by omega) (by omega) hh⟩
  · rw [Rg.link, r, q, hop]; simp; omega
  · rw [Rg.src, hop, if_pos rfl]; exact step_back n _ _ _ hn hn' hd (by omega) (by omega)
set_option maxRecDepth 100000 in
set_option maxHeartbeats 2000000 in
theorem numbers_walk (nb : Int) (w : World) (h0 : 0 ≤ nb) (h1 : nb ≤ 255) (hs : 0 < w.heap.size) (g : Signs w) :
    Calls Tryd.prog 10 #[.int .u8 nb] w fun e w' => e = .returned (.bool true) ∧ Below w.heap.size w w' := by
  have HN := hide (nodes_any nb w h0 h1)
  have bn : 4 ≤ 4 + nb % 13 ∧ 4 + nb % 13 ≤ 16 := by omega
  generalize 4 + nb % 13 = n at HN bn
  obtain ⟨bn, bn'⟩ := bn
  have gS := hide g
  clear g
  go_enter Tryd.func10, Tryd.ntmps10
  go_wp2_with fail
  refine HN.out.mono ?_
  rintro e w' ⟨rfl, rfl⟩
  clear HN
  go_wp2_with fail
  go_loopw [4] (fun i wr => ∃ k : Int, ∃ q : Nat, 0 ≤ k ∧ k ≤ 4 * n ∧ i = .int .i64 k ∧ wr = w.drewN q) (fun i _ => (4 * n - intOf i).toNat)
  case atStart => exact ⟨0, 0, by omega, by omega, rfl, rfl⟩
  case round =>
    obtain ⟨k, q, hk, hk', rfl, rfl⟩ := hrel
    by_cases hlt : k < 4 * n
    · have HE := hide (ends_good n k (w.drewN q) (by simp [Rg.endsB]; omega) gS.out)
      obtain ⟨hd, lk, sr, st, ne⟩ := num_law n k bn bn' hk hlt
      have T := hide (fun (W : World) (g : Signs W) => step_any n (k % 4 / 2) (k / 4) (k % 2 + 1) W hd g)
      clear st
      generalize Rg.step n (k % 4 / 2) (k / 4) (k % 2 + 1) = t at *
      generalize k / 4 = f at *
      generalize k % 4 / 2 = d at *
      generalize k % 2 + 1 = h at *
      have L := hide (fun (W : World) => link_any n d f h W hd)
      have S := hide (fun (W : World) (g : Signs W) => src_any n d t h W hd g)
      rw [lk] at L
      rw [sr] at S
      have ne' : (f == t) = false := by simpa using ne
      clear lk sr ne
      go_wp2_with fail
      refine HE.out.mono ?_
      rintro e w1 ⟨rfl, m1, rfl⟩
      go_wp2_with fail
      refine (L.out _).mono ?_
      rintro e w1 ⟨rfl, rfl⟩
      go_wp2_with fail
      refine (S.out _ (by exact gS.out)).mono ?_
      rintro e w1 ⟨rfl, m2, rfl⟩
      go_wp2_with fail
      refine (T.out _ (by exact gS.out)).mono ?_
      rintro e w1 ⟨rfl, m3, rfl⟩
      go_wp2_with fail
      go_roundw
      case rel => exact ⟨k + 1, _, by omega, by omega, by go_num, rfl⟩
      case measure => simp [intOf]; omega
    · obtain rfl : k = 4 * n := by omega
      have HE := hide (ends_bad n (4 * n) (w.drewN q) (by simp [Rg.endsB]) (by omega) (by omega))
      have L0 : Rg.link n 0 n 1 = -1 := by simp [Rg.link, Rg.nodeB]
      have L1 : Rg.link n 0 0 3 = -1 := by simp [Rg.link, Rg.hopB]
      have L0 := hide (fun (W : World) => L0 ▸ link_any n 0 n 1 W (by omega))
      have L1 := hide (fun (W : World) => L1 ▸ link_any n 0 0 3 W (by omega))
      go_wp2_with fail
      refine HE.out.mono ?_
      rintro e w1 ⟨rfl, rfl⟩
      go_wp2_with fail
      refine (L0.out _).mono ?_
      rintro e w1 ⟨rfl, rfl⟩
      go_wp2_with fail
      refine (L1.out _).mono ?_
      rintro e w1 ⟨rfl, rfl⟩
      go_wp2_with fail
      refine (rlives_any _ (by exact gS.out)).mono ?_
      rintro e w1 ⟨rfl, hb⟩
      have HB := hide hb
      clear hb
      go_wp2_with fail
      go_ret
      exact ⟨rfl, (below_drewN (Below.refl _ _) q).trans HB.out⟩
end Go.Proofs.YtbniijmabebhoaaDoor
