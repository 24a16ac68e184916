/- SameNums: of two slices that read as one list it says yes. -/
import Derived.Test.YtbniijmabebhoaaProg
import Derived.Test.YtbniijmabebhoaaLineWords
import Derived.WalkLawsBesides
import Derived.Outline
import Derived.BigQuiet
import Derived.Deep.QuietTactic
import Derived.Deep.LoopGhost
namespace Go.Proofs.Ytbniijmabebhoaa
open Go.RowKit
set_option linter.unusedVariables false
set_option maxHeartbeats 1000000 in
theorem samenums_eq (A A' : Option Addr) (n c c' B B' : Nat) (xs : List Int) (w : World) (hl : xs.length = n) (hn : n ≤ maxLen) (h : Sl w B A (xs.map (.int .i64))) (h' : Sl w B' A' (xs.map (.int .i64))) :
    Calls Try.prog 16 #[.slice A n c, .slice A' n c'] w fun e w' => e = .returned (.bool true) ∧ ∃ q, w' = w.drewN q := by
  unfold maxLen at hn
  have HL := hide hl
  have H1 := hide h
  have H2 := hide h'
  clear hl h h'
  go_enter Try.func16, Try.ntmps16
  go_wp2_with fail
  go_loopg [5] n (fun gk i wr => ∃ k q : Nat, gk + k = n ∧ i = .int .i64 k ∧ wr = w.drewN q)
  case atStart => exact ⟨0, 0, rfl, rfl, rfl⟩
  case round =>
    obtain ⟨k, q, hgk, rfl, rfl⟩ := hrel
    by_cases hlt : k < n
    · obtain ⟨ad, rfl, _, hc⟩ := H1.out.at_ (k := k) (by simpa [HL.out] using hlt)
      obtain ⟨ad', rfl, _, hc'⟩ := H2.out.at_ (k := k) (by simpa [HL.out] using hlt)
      rw [List.getElem_map] at hc hc'
      have hz : (0 : Int) ≤ k := by omega
      have hz' : (k : Int) < n := by omega
      go_wp2_with fail
      go_quiet (fail)
      go_wp2_with fail
      go_roundg (gk - 1)
      case measure => omega
      case rel => exact ⟨k + 1, _, by omega, by go_num, rfl⟩
    · go_wp2_with fail
      go_ret
      exact ⟨rfl, q, rfl⟩
end Go.Proofs.Ytbniijmabebhoaa
