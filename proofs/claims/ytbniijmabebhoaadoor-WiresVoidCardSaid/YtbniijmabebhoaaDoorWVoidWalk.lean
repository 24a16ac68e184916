/- The walk of WiresVoid: wires that are not there, or that no call made, carry nothing; nothing that was there has turned. -/
import Derived.Test.YtbniijmabebhoaaDoorWs

namespace Go.Proofs.YtbniijmabebhoaaDoor
open Go.RowKit
set_option linter.unusedVariables false
namespace Wr
open Mp
/-- A pointer that leads to no wires. -/
def Vd (w : World) (p : Value) : Prop := p = .pointer none ∨ ∃ B, p = ptr B ∧ w.cell? ⟨B, 1, none⟩ = some (.int .i64 0)
theorem there_v (w : World) (p : Value) (h : Vd w p) : Calls Tryd.prog 49 #[p] w fun e w' => e = .returned (.bool false) ∧ w = w' := by
  rcases h with rfl | ⟨B, rfl, c1⟩
  · go_enter Tryd.func49, Tryd.ntmps49
    go_wp2
    go_ret
    exact ⟨rfl, rfl⟩
  · go_enter Tryd.func49, Tryd.ntmps49
    go_wp2
    go_ret
    exact ⟨rfl, rfl⟩
set_option maxRecDepth 100000 in
theorem here_v (w : World) (p : Value) (h : Vd w p) (d a hp : Int) : Calls Tryd.prog 23 #[p, .int .u8 d, .int .i64 a, .int .i64 hp] w fun e w' => e = .returned (.tuple #[.int .i64 0, .bool false]) ∧ w = w' := by
  have T := hide (there_v w p h)
  clear h
  go_enter Tryd.func23, Tryd.ntmps23
  go_wp2_with fail
  refine T.out.mono ?_
  rintro e w' ⟨rfl, rfl⟩
  go_wp2_with fail
  go_ret2
  exact ⟨rfl, rfl⟩
set_option maxRecDepth 100000 in
theorem may_v (w : World) (p : Value) (h : Vd w p) (k : Int) : Calls Tryd.prog 48 #[p, .int .i64 k] w fun e w' => e = .returned (.int .i64 2) ∧ w = w' := by
  have T := hide (there_v w p h)
  clear h
  go_enter Tryd.func48, Tryd.ntmps48
  go_wp2_with fail
  refine T.out.mono ?_
  rintro e w' ⟨rfl, rfl⟩
  go_wp2_with fail
  go_ret
  exact ⟨rfl, rfl⟩
set_option maxRecDepth 100000 in
theorem given_v (w : World) (p : Value) (h : Vd w p) (k : Int) : Calls Tryd.prog 25 #[p, .int .i64 k] w fun e w' => e = .returned (.tuple #[.int .i64 0, .bool false]) ∧ w = w' := by
  have T := hide (may_v w p h k)
  clear h
  go_enter Tryd.func25, Tryd.ntmps25
  go_wp2_with fail
  refine T.out.mono ?_
  rintro e w' ⟨rfl, rfl⟩
  go_wp2_with fail
  go_ret2
  exact ⟨rfl, rfl⟩
set_option maxRecDepth 100000 in
theorem give_v (w : World) (p : Value) (h : Vd w p) (k x : Int) : Calls Tryd.prog 18 #[p, .int .i64 k, .int .i64 x] w fun e w' => e = .returned (.int .i64 2) ∧ w = w' := by
  have T := hide (may_v w p h k)
  clear h
  go_enter Tryd.func18, Tryd.ntmps18
  go_wp2_with fail
  refine T.out.mono ?_
  rintro e w' ⟨rfl, rfl⟩
  go_wp2_with fail
  go_ret
  exact ⟨rfl, rfl⟩
set_option maxRecDepth 100000 in
theorem take_v (w : World) (p : Value) (h : Vd w p) (k : Int) : Calls Tryd.prog 20 #[p, .int .i64 k] w fun e w' => e = .returned (.int .i64 2) ∧ w = w' := by
  have T := hide (may_v w p h k)
  clear h
  go_enter Tryd.func20, Tryd.ntmps20
  go_wp2_with fail
  refine T.out.mono ?_
  rintro e w' ⟨rfl, rfl⟩
  go_wp2_with fail
  go_ret
  exact ⟨rfl, rfl⟩
set_option maxRecDepth 100000 in
theorem end_v (w : World) (p : Value) (h : Vd w p) : Calls Tryd.prog 21 #[p] w fun e w' => e = .returned (.int .i64 2) ∧ w = w' := by
  have T := hide (there_v w p h)
  clear h
  go_enter Tryd.func21, Tryd.ntmps21
  go_wp2_with fail
  refine T.out.mono ?_
  rintro e w' ⟨rfl, rfl⟩
  go_wp2_with fail
  go_ret
  exact ⟨rfl, rfl⟩
set_option maxRecDepth 100000 in
theorem ticks_v (w : World) (p : Value) (h : Vd w p) : Calls Tryd.prog 27 #[p] w fun e w' => e = .returned (.int .i64 0) ∧ w = w' := by
  have T := hide (there_v w p h)
  clear h
  go_enter Tryd.func27, Tryd.ntmps27
  go_wp2_with fail
  refine T.out.mono ?_
  rintro e w' ⟨rfl, rfl⟩
  go_wp2_with fail
  go_ret
  exact ⟨rfl, rfl⟩
set_option maxRecDepth 100000 in
set_option maxHeartbeats 4000000 in
theorem void_walk (a0 a1 a2 a3 a4 a5 : Int) (w : World) (hs : 0 < w.heap.size) (sg : Signs w) :
    Calls Tryd.prog 4 #[.agg #[.int .u8 a0, .int .i64 a1, .int .i64 a2, .int .u8 a3, .int .i64 a4, .int .i64 a5]] w fun e w' => e = .returned (.bool true) ∧ Below w.heap.size w w' := by
  obtain ⟨W1, hW1⟩ : ∃ W1, w.alloc (.cells #[.int .u8 a0, .int .i64 a1, .int .i64 a2, .int .u8 a3, .int .i64 a4, .int .i64 a5] 32) = W1 := ⟨_, rfl⟩
  obtain ⟨W2, hW2⟩ : ∃ W2, W1.alloc (.cells #[.map none, .int .i64 0, .map none, .int .i64 0] 53) = W2 := ⟨_, rfl⟩
  obtain ⟨W3, hW3⟩ : ∃ W3, W2.alloc (.cells #[.pointer none, .pointer (some ⟨w.heap.size + 1, 0, none⟩)] 24) = W3 := ⟨_, rfl⟩
  have z1 : W1.heap.size = w.heap.size + 1 := by rw [← hW1]; exact alloc_size _ _
  have z2 : W2.heap.size = w.heap.size + 1 + 1 := by rw [← hW2, alloc_size, z1]
  have z3 : W3.heap.size = w.heap.size + 1 + 1 + 1 := by rw [← hW3, alloc_size, z2]
  have hb1 : W3.heap[w.heap.size]? = some (.cells #[.int .u8 a0, .int .i64 a1, .int .i64 a2, .int .u8 a3, .int .i64 a4, .int .i64 a5] 32 (0, 0)) := by
    rw [← hW3, ← hW2, ← hW1]
    exact (Below.heap_alloc _ _ _ (by rw [alloc_size, alloc_size]; omega)).trans ((Below.heap_alloc _ _ _ (by rw [alloc_size]; omega)).trans (heap_alloc_new w _))
  have hb2 : W3.heap[w.heap.size + 1]? = some (.cells #[.map none, .int .i64 0, .map none, .int .i64 0] 53 (0, 0)) := by
    rw [← hW3]
    refine (Below.heap_alloc _ _ _ (by omega)).trans ?_
    rw [← hW2, ← z1]
    exact heap_alloc_new W1 _
  have hb3 : W3.heap[w.heap.size + 1 + 1]? = some (.cells #[.pointer none, .pointer (some ⟨w.heap.size + 1, 0, none⟩)] 24 (0, 0)) := by
    rw [← hW3, ← z2]
    exact heap_alloc_new W2 _
  have BL := hide (show Below w.heap.size w W3 from by
    rw [← hW3, ← hW2, ← hW1]
    exact (((Below.refl _ w).alloc (Nat.le_refl _) _).alloc (by rw [alloc_size]; omega) _).alloc (by rw [alloc_size, alloc_size]; omega) _)
  have cc0 := row_cell hb1 0
  have cc1 := row_cell hb1 1
  have cc2 := row_cell hb1 2
  have cc3 := row_cell hb1 3
  have cc4 := row_cell hb1 4
  have cc5 := row_cell hb1 5
  have d0 := row_cell hb3 0
  have d1 := row_cell hb3 1
  have V2 := hide (show Vd W3 (.pointer (some ⟨w.heap.size + 1, 0, none⟩)) from .inr ⟨_, rfl, row_cell hb2 1⟩)
  have HS := hide (And.intro hs sg)
  clear hs sg hb1 hb2 hb3 z3
  go_enter Tryd.func4, Tryd.ntmps4
  go_wp2_with fail
  clear hW1 hW2 hW3 z1 z2
  go_loopg [5] 2 (fun gk i wr => ∃ k : Nat, gk + k = 2 ∧ i = .int .i64 k ∧ Hid (wr = W3))
  case atStart => exact ⟨0, rfl, rfl, rfl⟩
  case round =>
    obtain ⟨k, hgk, rfl, K⟩ := hrel
    have K := K.out
    subst K
    have hk : k = 0 ∨ k = 1 ∨ k = 2 := by omega
    rcases hk with rfl | rfl | rfl
    · have V := hide (show Vd wr (.pointer none) from .inl rfl)
      go_wp2_with fail
      refine (here_v _ _ V.out _ _ _).mono ?_
      rintro e w' ⟨rfl, rfl⟩
      go_wp2_with fail
      refine (given_v _ _ V.out _).mono ?_
      rintro e w' ⟨rfl, rfl⟩
      go_wp2_with fail
      refine (give_v _ _ V.out _ _).mono ?_
      rintro e w' ⟨rfl, rfl⟩
      go_wp2_with fail
      refine (take_v _ _ V.out _).mono ?_
      rintro e w' ⟨rfl, rfl⟩
      go_wp2_with fail
      refine (end_v _ _ V.out).mono ?_
      rintro e w' ⟨rfl, rfl⟩
      go_wp2_with fail
      refine (ticks_v _ _ V.out).mono ?_
      rintro e w' ⟨rfl, rfl⟩
      go_wp2_with fail
      go_roundg (gk - 1)
      case measure => omega
      case rel => exact ⟨1, by omega, by rfl, rfl⟩
    · have V := V2
      go_wp2_with fail
      refine (here_v _ _ V.out _ _ _).mono ?_
      rintro e w' ⟨rfl, rfl⟩
      go_wp2_with fail
      refine (given_v _ _ V.out _).mono ?_
      rintro e w' ⟨rfl, rfl⟩
      go_wp2_with fail
      refine (give_v _ _ V.out _ _).mono ?_
      rintro e w' ⟨rfl, rfl⟩
      go_wp2_with fail
      refine (take_v _ _ V.out _).mono ?_
      rintro e w' ⟨rfl, rfl⟩
      go_wp2_with fail
      refine (end_v _ _ V.out).mono ?_
      rintro e w' ⟨rfl, rfl⟩
      go_wp2_with fail
      refine (ticks_v _ _ V.out).mono ?_
      rintro e w' ⟨rfl, rfl⟩
      go_wp2_with fail
      go_roundg (gk - 1)
      case measure => omega
      case rel => exact ⟨2, by omega, by rfl, rfl⟩
    · go_wp2_with fail
      refine (wlives_any w _ HS.out.1 HS.out.2 BL.out).mono ?_
      rintro e w' ⟨rfl, hb⟩
      have HB := hide hb
      clear hb
      go_wp2_with fail
      go_ret
      exact ⟨rfl, HB.out⟩
end Wr
end Go.Proofs.YtbniijmabebhoaaDoor
