/- What is here at a link's other end; the ring's numbers at wires. -/
import Derived.Test.YtbniijmabebhoaaDoorWs
import Derived.Test.YtbniijmabebhoaaDoorRoundWalk
namespace Go.Proofs.YtbniijmabebhoaaDoor
open Go.RowKit
set_option linter.unusedVariables false
namespace Wr
open Mp
theorem step_back (n d a h : Int) (hn : 4 ≤ n) (hn' : n ≤ 16) (hd : 0 ≤ d) (hd' : d ≤ 1) (ha : 0 ≤ a) (ha' : a < n) (hh : h = 1 ∨ h = 2) : 0 ≤ Rg.step n d a h ∧ Rg.step n d a h < n ∧ Rg.src n d (Rg.step n d a h) h = a := by
  have r : Rg.ringB n d = true := by simp [Rg.ringB]; omega
  have na : Rg.nodeB n a = true := by simp [Rg.nodeB]; omega
  have e : Rg.step n d a h = (a + Rg.sg d * h) % n := by unfold Rg.step; rw [r, na]; rfl
  have b1 := Int.emod_nonneg (a + Rg.sg d * h) (show n ≠ 0 by omega)
  have b2 := Int.emod_lt_of_pos (a + Rg.sg d * h) (show 0 < n by omega)
  rw [e]
  refine ⟨b1, b2, ?_⟩
  have nt : Rg.nodeB n ((a + Rg.sg d * h) % n) = true := by simp [Rg.nodeB]; omega
  have hb : Rg.hopB h = true := by rcases hh with rfl | rfl <;> rfl
  unfold Rg.src Rg.step
  rw [r, nt, hb]
  simp only [Bool.and_true, if_true]
  have : ((a + Rg.sg d * h) % n + Rg.sg d * -h) % n = (a + Rg.sg d * h + Rg.sg d * -h) % n := Int.emod_add_emod _ _ _
  rw [this, show a + Rg.sg d * h + Rg.sg d * -h = a from by rw [Int.mul_neg]; omega]
  exact Int.emod_eq_of_lt ha ha'
theorem link_at (n d a h : Int) (hn : 4 ≤ n) (hn' : n ≤ 16) (hd : 0 ≤ d) (hd' : d ≤ 1) (ha : 0 ≤ a) (ha' : a < n) (hh : h = 1 ∨ h = 2) : Rg.link n d a h = 4 * a + 2 * d + h - 1 := by
  have r : Rg.ringB n d = true := by simp [Rg.ringB]; omega
  have na : Rg.nodeB n a = true := by simp [Rg.nodeB]; omega
  have hb : Rg.hopB h = true := by rcases hh with rfl | rfl <;> rfl
  unfold Rg.link
  rw [r, na, hb]
  rfl
/-- What is here where a link leads. -/
theorem here_end (n : Nat) (H : List (Int → Option Int)) (j : Nat) (hn : 4 ≤ n) (hn' : n ≤ 16) (hj : j < 4 * n) :
    here n H ((j : Int) % 4 / 2) (Rg.step n ((j : Int) % 4 / 2) ((j : Int) / 4) ((j : Int) % 2 + 1)) ((j : Int) % 2 + 1) = past H (j % 2) j := by
  obtain ⟨h1, h2, h3⟩ := step_back n ((j : Int) % 4 / 2) ((j : Int) / 4) ((j : Int) % 2 + 1) (by omega) (by omega) (by omega) (by omega) (by omega) (by omega) (by omega)
  unfold here
  rw [h3, link_at n _ _ _ (by omega) (by omega) (by omega) (by omega) (by omega) (by omega) (by omega), show 4 * ((j : Int) / 4) + 2 * ((j : Int) % 4 / 2) + ((j : Int) % 2 + 1) - 1 = (j : Int) from by omega]
  rw [(inB_iff n j).2 (by omega)]
  simp only [if_true]
  congr 1
theorem past_zero (G : Int → Option Int) (H : List (Int → Option Int)) (j : Int) : past (G :: H) 0 j = G j := rfl
theorem past_succ (G : Int → Option Int) (H : List (Int → Option Int)) (i : Nat) (j : Int) : past (G :: H) (i + 1) j = past H i j := rfl
theorem past_nil (i : Nat) (j : Int) : past [] i j = none := rfl
end Wr
end Go.Proofs.YtbniijmabebhoaaDoor
