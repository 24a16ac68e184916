/- SumsOf where a part is too long: lives alone. -/
import Derived.Test.YtlbnikmaafccnaaSumsOfWalk
namespace Go.Proofs.Ytlbnikmaafccnaa
open Go.RowKit Sm
set_option linter.unusedVariables false
theorem sof_long (A B C : Option Addr) (n1 n2 n3 c1 c2 c3 : Nat) (w : World) (h : 300 < n1 ∨ 300 < n2 ∨ 300 < n3) (m1 : n1 ≤ maxLen) (m2 : n2 ≤ maxLen) (m3 : n3 ≤ maxLen) :
    Calls Try.prog 9 #[.slice A n1 c1, .slice B n2 c2, .slice C n3 c3] w fun e w' => e = .returned (.bool true) ∧ Below w.heap.size w w' := by
  unfold maxLen at m1 m2 m3
  have LI := hide (slives_any w)
  obtain ⟨a1, ha1⟩ : ∃ a1, decide ((300 : Int) < n1) = a1 := ⟨_, rfl⟩
  obtain ⟨a2, ha2⟩ : ∃ a2, decide ((300 : Int) < n2) = a2 := ⟨_, rfl⟩
  obtain ⟨a3, ha3⟩ : ∃ a3, decide ((300 : Int) < n3) = a3 := ⟨_, rfl⟩
  have hor : a1 = true ∨ (a1 = false ∧ a2 = true) ∨ (a1 = false ∧ a2 = false ∧ a3 = true) := by
    subst ha1; subst ha2; subst ha3
    simp only [decide_eq_true_eq, decide_eq_false_iff_not]
    omega
  clear h
  rcases hor with rfl | ⟨rfl, rfl⟩ | ⟨rfl, rfl, rfl⟩ <;>
  · go_enter Try.func9, Try.ntmps9
    go_wp2_with fail
    refine LI.out.mono ?_
    rintro e w' ⟨rfl, hb⟩
    have HB := hide hb
    clear hb
    go_wp2_with fail
    go_ret
    exact ⟨rfl, HB.out⟩
end Go.Proofs.Ytlbnikmaafccnaa
