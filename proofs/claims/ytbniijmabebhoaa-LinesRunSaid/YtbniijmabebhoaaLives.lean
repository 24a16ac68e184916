/- The chapter's example of layer 7, and the statement on lines that are not there: what they return. -/
import Derived.Test.YtbniijmabebhoaaLinesInt
namespace Go.Proofs.Ytbniijmabebhoaa
open Go.RowKit
set_option linter.unusedVariables false
theorem below_of_far {a b : World} (h : Far (fun _ => False) a b) : Below a.heap.size a b := ⟨h.os, h.tape, h.output, h.size, fun k hk => h.block k hk (fun e => e)⟩
theorem cell_far {S : Nat → Prop} {w w' : World} (h : Far S w w') {p : Addr} {u : Value} (hc : w.cell? p = some u) (hn : ¬ S p.block) : w'.cell? p = some u :=
  (World.cell?_of_block (h.block p.block (lt_of_cell hc) hn)).trans hc
set_option maxRecDepth 100000 in
set_option maxHeartbeats 2000000 in
theorem lives_any (w : World) : Calls Try.prog 7 #[] w fun e w' => e = .returned (.bool true) ∧ Below w.heap.size w w' := by
  go_enter Try.func7, Try.ntmps7
  go_wp2_with fail
  refine (L_int.new2 _).mono ?_
  rintro e w1 ⟨rfl, L1, F1⟩
  have B1 := hide (below_of_far F1)
  clear F1
  go_wp2_with fail
  refine (L_int.here_any _ _ 2 _ _ _ (by omega) (row_cell L1.1 0) (row_cell L1.2 0) (row_cell L1.2 1)).mono ?_
  rintro e w2 ⟨rfl, n1, rfl⟩
  go_wp2_with fail
  refine (L_int.send2s _ _ 0 false 0 false 0 5 ⟨w1.heap.size, 0, none⟩ 1 _ (by omega) (by omega) ((L1.drewN n1).alloc _) (cell_new (w1.drewN n1) _ _ _ 0)).mono ?_
  rintro e w2 ⟨rfl, L2, F2⟩
  have B2 := hide (Far.below ((below_drewN B1.out n1).alloc B1.out.size _) F2 (by have := B1.out.size; simp; omega) (by rintro k (rfl | rfl) <;> omega))
  clear F2 L1 B1
  go_wp2_with fail
  refine (L_int.here_any _ _ 2 _ _ _ (by omega) (row_cell L2.1 0) (row_cell L2.2 0) (row_cell L2.2 1)).mono ?_
  rintro e w3 ⟨rfl, n2, rfl⟩
  go_wp2_with fail
  refine (L_int.send2n _ _ 0 false 5 true (0 + 1) _ (by omega) (by omega) (L2.drewN n2)).mono ?_
  rintro e w3 ⟨rfl, L3, F3⟩
  have B3 := hide (Far.below (below_drewN B2.out n2) F3 B2.out.size (by rintro k (rfl | rfl) <;> omega))
  clear F3 L2 B2
  go_wp2_with fail
  refine (L_int.here_any _ _ 2 _ _ _ (by omega) (row_cell L3.1 0) (row_cell L3.2 0) (row_cell L3.2 1)).mono ?_
  rintro e w4 ⟨rfl, n3, rfl⟩
  go_wp2_with fail
  refine (L_int.send2n _ _ 5 true 0 false (0 + 1 + 1) _ (by omega) (by omega) (L3.drewN n3)).mono ?_
  rintro e w4 ⟨rfl, L4, F4⟩
  have B4 := hide (Far.below (below_drewN B3.out n3) F4 B3.out.size (by rintro k (rfl | rfl) <;> omega))
  clear F4 L3 B3
  go_wp2_with fail
  refine (L_int.here_any _ _ 2 _ _ _ (by omega) (row_cell L4.1 0) (row_cell L4.2 0) (row_cell L4.2 1)).mono ?_
  rintro e w5 ⟨rfl, n4, rfl⟩
  go_wp2_with fail
  go_ret
  exact ⟨rfl, below_drewN B4.out n4⟩
end Go.Proofs.Ytbniijmabebhoaa
