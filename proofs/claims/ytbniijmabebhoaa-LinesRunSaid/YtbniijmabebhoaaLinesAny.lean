/- The contract of a line's Send where nothing is sent, whatever empty slice is handed over. -/
import Derived.Test.YtbniijmabebhoaaLinesInt
namespace Go.Proofs.Ytbniijmabebhoaa
open Go.RowKit
set_option linter.unusedVariables false
set_option linter.unusedSimpArgs false
namespace L_int
set_option maxRecDepth 100000 in
set_option maxHeartbeats 1000000 in
theorem send1a (B R : Nat) (x : Int) (b : Bool) (t : Int) (A0 : Option Addr) (c0 : Nat) (w : World) (ht : 0 ≤ t) (ht' : t ≤ 1000000) (L : Ln w 60 84 B R 1 #[(.int .i64 x), .bool b] t) :
    Calls Try.prog 22 #[.pointer (some ⟨B, 0, none⟩), .slice A0 0 c0] w fun e w' => e = .returned (.int .i64 0) ∧ Ln w' 60 84 B R 1 #[(.int .i64 0), .bool false] (t + 1) ∧ Far (fun k => k = B ∨ k = R) w w' := by
  have hBR : B ≠ R := L.ne (by decide)
  have hRB : R ≠ B := fun e => hBR e.symm
  have hlB : B < w.heap.size := lt_of_blk L.1
  have hlR : R < w.heap.size := lt_of_blk L.2
  have a0 : w.cell? ⟨B, 0, none⟩ = some (.slice (some ⟨R, 0, none⟩) 1 1) := row_cell L.1 0
  have a1 : ∀ o, (w.alloc o).cell? ⟨B, 0, none⟩ = some (.slice (some ⟨R, 0, none⟩) 1 1) := fun o => row_cell (L.alloc o).1 0
  have a2 : ∀ o, (w.alloc o).heap[R]? = some (.cells #[(.int .i64 x), .bool b] 84 (0, 0)) := fun o => (L.alloc o).2
  have hcp := fun o => run_copy_none (P := Try.prog) (w.alloc o).drew 58 58 3 84 R Try.underlying58 (by kernel_rfl)
  have HL := hide (And.intro L.1 (And.intro L.2 (Far.refl (fun k => k = B ∨ k = R) w)))
  obtain ⟨W1, hW1⟩ : ∃ W1, W1 = (w.alloc (Obj.cells #[(.int .i64 0), .bool false] 84)).drew := ⟨_, rfl⟩
  have H1 : W1.heap[B]? = some (.cells #[.slice (some ⟨R, 0, none⟩) 1 1, .int .i64 t] 60 (0, 0)) := by rw [hW1]; exact (Below.heap_alloc w _ B hlB).trans L.1
  have H2 : W1.heap[R]? = some (.cells #[(.int .i64 x), .bool b] 84 (0, 0)) := by rw [hW1]; exact (Below.heap_alloc w _ R hlR).trans L.2
  have H3 : W1.heap[w.heap.size]? = some (.cells #[(.int .i64 0), .bool false] 84 (0, 0)) := by rw [hW1]; exact heap_alloc_new w _
  have HF : Hid (Far (fun k => k = B ∨ k = R) w W1) := by rw [hW1]; exact ((Far.refl _ w).alloc _).drew
  have HW := hide hW1
  have K1 := hide H1
  have K2 := hide H2
  have K3 := hide H3
  clear L a2 hW1 H1 H2 H3
  go_enter Try.func22, Try.ntmps22
  go_wp2_with (go_at_call 35; refine (there_yes B R 1 _ (by omega) a0).mono ?_; rintro e w' ⟨rfl, rfl⟩)
  refine wp_loop_rounds 1 ?_; rw [rounds_succ]; go_wp2_with fail
  go_region
  rw [← HW.out]
  have b0 := row_cell K1.out 0
  have b1 := row_cell K1.out 1
  have g1 := row_free K1.out 1
  have r2 := row_cell K2.out 0
  have r3 := row_cell K2.out 1
  have k2 := row_free K2.out 0
  have k3 := row_free K2.out 1
  have n0 := row_cell K3.out 0
  have n1 := row_cell K3.out 1
  clear hcp a0 a1
  simp at b0 b1 r2 r3 n0 n1
  go_wp2_with fail
  go_region
  go_wp2_with fail
  go_ret
  refine ⟨rfl, ⟨?_, ?_⟩, ?_⟩
  · exact row_set ((Below.heap_setCell _ _ _ _ hBR).trans ((Below.heap_setCell _ _ _ _ hBR).trans K1.out)) 1 _
  · exact (Below.heap_setCell _ _ _ _ hRB).trans (row_set (row_set K2.out _ _) _ _)
  · exact (((HF.out.setCell (.inl (.inr rfl)) _).setCell (.inl (.inr rfl)) _).setCell (.inl (.inl rfl)) _).drew
set_option maxRecDepth 100000 in
set_option maxHeartbeats 1000000 in
theorem send2a (B R : Nat) (x : Int) (b : Bool) (y : Int) (c : Bool) (t : Int) (A0 : Option Addr) (c0 : Nat) (w : World) (ht : 0 ≤ t) (ht' : t ≤ 1000000) (L : Ln w 60 84 B R 2 #[(.int .i64 x), .bool b, (.int .i64 y), .bool c] t) :
    Calls Try.prog 22 #[.pointer (some ⟨B, 0, none⟩), .slice A0 0 c0] w fun e w' => e = .returned (.int .i64 0) ∧ Ln w' 60 84 B R 2 #[(.int .i64 y), .bool c, (.int .i64 0), .bool false] (t + 1) ∧ Far (fun k => k = B ∨ k = R) w w' := by
  have hBR : B ≠ R := L.ne (by decide)
  have hRB : R ≠ B := fun e => hBR e.symm
  have hlB : B < w.heap.size := lt_of_blk L.1
  have hlR : R < w.heap.size := lt_of_blk L.2
  have a0 : w.cell? ⟨B, 0, none⟩ = some (.slice (some ⟨R, 0, none⟩) 2 2) := row_cell L.1 0
  have a1 : ∀ o, (w.alloc o).cell? ⟨B, 0, none⟩ = some (.slice (some ⟨R, 0, none⟩) 2 2) := fun o => row_cell (L.alloc o).1 0
  have a2 : ∀ o, (w.alloc o).heap[R]? = some (.cells #[(.int .i64 x), .bool b, (.int .i64 y), .bool c] 84 (0, 0)) := fun o => (L.alloc o).2
  have hcp := fun o => run_copy_down (P := Try.prog) (w.alloc o).drew 58 58 3 84 84 R (.int .i64 x) (.bool b) (.int .i64 y) (.bool c) Try.underlying58 (by kernel_rfl) (a2 o) rfl rfl
  have HL := hide (And.intro L.1 (And.intro L.2 (Far.refl (fun k => k = B ∨ k = R) w)))
  obtain ⟨W1, hW1⟩ : ∃ W1, W1 = ((w.alloc (Obj.cells #[(.int .i64 0), .bool false] 84)).drew.setRow R #[(.int .i64 y), .bool c, (.int .i64 y), .bool c]) := ⟨_, rfl⟩
  have H1 : W1.heap[B]? = some (.cells #[.slice (some ⟨R, 0, none⟩) 2 2, .int .i64 t] 60 (0, 0)) := by rw [hW1]; exact by rw [setRow_far _ _ _ _ hBR]; exact (Below.heap_alloc w _ B hlB).trans L.1
  have H2 : W1.heap[R]? = some (.cells #[(.int .i64 y), .bool c, (.int .i64 y), .bool c] 84 (0, 0)) := by rw [hW1]; exact setRow_heap _ _ _ _ _ _ ((Below.heap_alloc w _ R hlR).trans L.2)
  have H3 : W1.heap[w.heap.size]? = some (.cells #[(.int .i64 0), .bool false] 84 (0, 0)) := by rw [hW1]; exact by rw [setRow_far _ _ _ _ (by omega)]; exact heap_alloc_new w _
  have HF : Hid (Far (fun k => k = B ∨ k = R) w W1) := by rw [hW1]; exact (((Far.refl _ w).alloc _).drew).setRow (.inl (.inr rfl)) _
  have HW := hide hW1
  have K1 := hide H1
  have K2 := hide H2
  have K3 := hide H3
  clear L a2 hW1 H1 H2 H3
  go_enter Try.func22, Try.ntmps22
  go_wp2_with (go_at_call 35; refine (there_yes B R 2 _ (by omega) a0).mono ?_; rintro e w' ⟨rfl, rfl⟩)
  refine wp_loop_rounds 1 ?_; rw [rounds_succ]; go_wp2_with fail
  go_region
  rw [← HW.out]
  have b0 := row_cell K1.out 0
  have b1 := row_cell K1.out 1
  have g1 := row_free K1.out 1
  have r2 := row_cell K2.out 2
  have r3 := row_cell K2.out 3
  have k2 := row_free K2.out 2
  have k3 := row_free K2.out 3
  have n0 := row_cell K3.out 0
  have n1 := row_cell K3.out 1
  clear hcp a0 a1
  simp at b0 b1 r2 r3 n0 n1
  go_wp2_with fail
  go_region
  go_wp2_with fail
  go_ret
  refine ⟨rfl, ⟨?_, ?_⟩, ?_⟩
  · exact row_set ((Below.heap_setCell _ _ _ _ hBR).trans ((Below.heap_setCell _ _ _ _ hBR).trans K1.out)) 1 _
  · exact (Below.heap_setCell _ _ _ _ hRB).trans (row_set (row_set K2.out _ _) _ _)
  · exact (((HF.out.setCell (.inl (.inr rfl)) _).setCell (.inl (.inr rfl)) _).setCell (.inl (.inl rfl)) _).drew
end L_int
end Go.Proofs.Ytbniijmabebhoaa
