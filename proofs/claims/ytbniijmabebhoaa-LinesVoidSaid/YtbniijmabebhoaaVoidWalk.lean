/- The walk of LinesVoid: lines that are not there, or that no call made, carry nothing; nothing that was there has turned. -/
import Derived.Test.YtbniijmabebhoaaLives
namespace Go.Proofs.Ytbniijmabebhoaa
open Go.RowKit
set_option linter.unusedVariables false
set_option maxRecDepth 100000 in
set_option maxHeartbeats 2000000 in
theorem void_walk (A : Option Addr) (len cap : Nat) (w : World) (hm : len ≤ maxLen) : Calls Try.prog 5 #[.slice A len cap] w fun e w' => e = .returned (.bool true) ∧ Below w.heap.size w w' := by
  unfold maxLen at hm
  rcases (show (100 : Int) < len ∨ (len : Int) ≤ 100 from by omega) with hl | hl
  · go_enter Try.func5, Try.ntmps5
    go_wp2_with fail
    refine (lives_any _).mono ?_
    rintro e w' ⟨rfl, hb⟩
    have HB := hide hb
    clear hb
    go_wp2_with fail
    go_ret
    exact ⟨rfl, HB.out⟩
  · have c0 := hide (fun o => (World.cell?_alloc_lt (w.alloc (.cells #[.slice none 0 0, .int .i64 0] 60)) o ⟨w.heap.size, 0, none⟩ (by simp)).trans (cell_new w #[.slice none 0 0, .int .i64 0] 60 (0, 0) 0))
    go_enter Try.func5, Try.ntmps5
    go_wp2_with fail
    refine wp_loop_rounds 3 ?_; rw [rounds_succ]; go_wp2_with fail
    refine (L_int.here_nil _).mono ?_
    rintro e w' ⟨rfl, rfl⟩
    go_wp2_with fail
    refine (L_int.send_nil _ _ _ _).mono ?_
    rintro e w' ⟨rfl, rfl⟩
    go_wp2_with fail
    refine (L_int.ticks_nil _).mono ?_
    rintro e w' ⟨rfl, rfl⟩
    go_wp2_with fail
    refine (L_int.way_nil _).mono ?_
    rintro e w' ⟨rfl, rfl⟩
    go_wp2_with fail
    rw [rounds_succ]; go_wp2_with fail
    refine (L_int.here_void _ _ (c0.out _)).mono ?_
    rintro e w' ⟨rfl, rfl⟩
    go_wp2_with fail
    refine (L_int.send_void _ _ _ _ _ (c0.out _)).mono ?_
    rintro e w' ⟨rfl, rfl⟩
    go_wp2_with fail
    refine (L_int.ticks_void _ _ (c0.out _)).mono ?_
    rintro e w' ⟨rfl, rfl⟩
    go_wp2_with fail
    refine (L_int.way_void _ _ (c0.out _)).mono ?_
    rintro e w' ⟨rfl, rfl⟩
    go_wp2_with fail
    rw [rounds_succ]; go_wp2_with fail
    refine (lives_any _).mono ?_
    rintro e w' ⟨rfl, hb⟩
    have HB := hide (((Below.refl w.heap.size w).alloc (Nat.le_refl _) (.cells #[.slice none 0 0, .int .i64 0] 60)).alloc (by simp) (.cells #[.pointer none, .pointer (some ⟨w.heap.size, 0, none⟩)] 35))
    have HC := hide hb
    clear hb
    go_wp2_with fail
    go_ret
    exact ⟨rfl, HB.out.trans (HC.out.mono (by simp; omega))⟩
end Go.Proofs.Ytbniijmabebhoaa
