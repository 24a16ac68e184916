import Derived.Test.YtbniijmabebhoaaLives
namespace Go.Proofs.Ytbniijmabebhoaa
set_option linter.unusedVariables false
open Go.RowKit
set_option maxRecDepth 100000 in
theorem time_long (A G : Option Addr) (len cap glen gcap : Nat) (w : World) (hs : 300 < len) (hm : len ≤ maxLen) :
    Calls Try.prog 3 #[.slice A len cap, .slice G glen gcap] w fun e w' => e = .returned (.bool true) ∧ Below w.heap.size w w' := by
  unfold maxLen at hm
  go_enter Try.func3, Try.ntmps3
  go_wp2_with fail
  refine (lives_any _).mono ?_
  rintro e w1 ⟨rfl, B⟩
  have B' := hide B
  clear B
  go_wp2_with fail
  go_ret
  exact ⟨rfl, B'.out⟩
end Go.Proofs.Ytbniijmabebhoaa
