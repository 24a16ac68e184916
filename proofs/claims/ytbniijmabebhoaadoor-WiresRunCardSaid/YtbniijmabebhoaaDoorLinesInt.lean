/- The contracts of package lines at one kind of thing that is carried: what each method returns, and what becomes of the line. -/
import Derived.Test.YtbniijmabebhoaaDoorProg
import Derived.Test.YtbniijmabebhoaaDoorLineWords
import Derived.WalkLawsBesides
import Derived.WalkSpells
import Derived.BigQuiet
import Derived.BigRegion
import Derived.Deep.QuietTactic
import Derived.Outline
namespace Go.Proofs.YtbniijmabebhoaaDoor
open Go.RowKit
set_option linter.unusedVariables false
set_option linter.unusedSimpArgs false
namespace L_int
theorem there_yes (B R h : Nat) (w : World) (hh : 0 < h) (c0 : w.cell? ⟨B, 0, none⟩ = some (.slice (some ⟨R, 0, none⟩) h h)) :
    Calls Tryd.prog 63 #[.pointer (some ⟨B, 0, none⟩)] w fun e w' => e = .returned (.bool true) ∧ w = w' := by
  have hp : (0 : Int) < h := by omega
  go_enter Tryd.func63, Tryd.ntmps63
  go_wp2
  go_ret
  exact ⟨rfl, rfl⟩
theorem there_nil (w : World) : Calls Tryd.prog 63 #[.pointer none] w fun e w' => e = .returned (.bool false) ∧ w = w' := by
  go_enter Tryd.func63, Tryd.ntmps63
  go_wp2
  go_ret
  exact ⟨rfl, rfl⟩
theorem there_void (B : Nat) (w : World) (c0 : w.cell? ⟨B, 0, none⟩ = some (.slice none 0 0)) :
    Calls Tryd.prog 63 #[.pointer (some ⟨B, 0, none⟩)] w fun e w' => e = .returned (.bool false) ∧ w = w' := by
  go_enter Tryd.func63, Tryd.ntmps63
  go_wp2
  go_ret
  exact ⟨rfl, rfl⟩
theorem here_any (B R h : Nat) (x : Int) (b : Bool) (w : World) (hh : 0 < h) (c0 : w.cell? ⟨B, 0, none⟩ = some (.slice (some ⟨R, 0, none⟩) h h)) (c1 : w.cell? ⟨R, 0, none⟩ = some (.int .i64 x)) (c2 : w.cell? ⟨R, 1, none⟩ = some (.bool b)) :
    Calls Tryd.prog 51 #[.pointer (some ⟨B, 0, none⟩)] w fun e w' => e = .returned (.tuple #[(.int .i64 x), .bool b]) ∧ ∃ n, w' = w.drewN n := by
  have hp : (0 : Int) < h := by omega
  go_enter Tryd.func51, Tryd.ntmps51
  go_wp2_with (go_at_call 63; refine (there_yes B R h _ hh c0).mono ?_; rintro e w' ⟨rfl, rfl⟩)
  go_quiet (fail)
  go_wp2_with fail
  go_ret2
  exact ⟨rfl, _, rfl⟩
theorem here_nil (w : World) : Calls Tryd.prog 51 #[.pointer none] w fun e w' => e = .returned (.tuple #[(.int .i64 0), .bool false]) ∧ w = w' := by
  go_enter Tryd.func51, Tryd.ntmps51
  go_wp2_with (go_at_call 63; refine (there_nil _).mono ?_; rintro e w' ⟨rfl, rfl⟩)
  go_ret2
  exact ⟨rfl, rfl⟩
theorem here_void (B : Nat) (w : World) (c0 : w.cell? ⟨B, 0, none⟩ = some (.slice none 0 0)) : Calls Tryd.prog 51 #[.pointer (some ⟨B, 0, none⟩)] w fun e w' => e = .returned (.tuple #[(.int .i64 0), .bool false]) ∧ w = w' := by
  go_enter Tryd.func51, Tryd.ntmps51
  go_wp2_with (go_at_call 63; refine (there_void B _ c0).mono ?_; rintro e w' ⟨rfl, rfl⟩)
  go_ret2
  exact ⟨rfl, rfl⟩
theorem send_nil (A : Option Addr) (len cap : Nat) (w : World) : Calls Tryd.prog 50 #[.pointer none, .slice A len cap] w fun e w' => e = .returned (.int .i64 2) ∧ w = w' := by
  go_enter Tryd.func50, Tryd.ntmps50
  go_wp2_with (go_at_call 63; refine (there_nil _).mono ?_; rintro e w' ⟨rfl, rfl⟩)
  go_ret
  exact ⟨rfl, rfl⟩
theorem send_void (B : Nat) (A : Option Addr) (len cap : Nat) (w : World) (c0 : w.cell? ⟨B, 0, none⟩ = some (.slice none 0 0)) : Calls Tryd.prog 50 #[.pointer (some ⟨B, 0, none⟩), .slice A len cap] w fun e w' => e = .returned (.int .i64 2) ∧ w = w' := by
  go_enter Tryd.func50, Tryd.ntmps50
  go_wp2_with (go_at_call 63; refine (there_void B _ c0).mono ?_; rintro e w' ⟨rfl, rfl⟩)
  go_ret
  exact ⟨rfl, rfl⟩
theorem send_many (B R h : Nat) (A : Option Addr) (len cap : Nat) (w : World) (hh : 0 < h) (hl : 1 < len) (c0 : w.cell? ⟨B, 0, none⟩ = some (.slice (some ⟨R, 0, none⟩) h h)) :
    Calls Tryd.prog 50 #[.pointer (some ⟨B, 0, none⟩), .slice A len cap] w fun e w' => e = .returned (.int .i64 1) ∧ w = w' := by
  have h1 : (1 : Int) < len := by omega
  go_enter Tryd.func50, Tryd.ntmps50
  go_wp2_with (go_at_call 63; refine (there_yes B R h _ hh c0).mono ?_; rintro e w' ⟨rfl, rfl⟩)
  go_ret
  exact ⟨rfl, rfl⟩
set_option maxRecDepth 100000 in
set_option maxHeartbeats 1000000 in
theorem send1n (B R : Nat) (x : Int) (b : Bool) (t : Int) (w : World) (ht : 0 ≤ t) (ht' : t ≤ 1000000) (L : Ln w 102 105 B R 1 #[(.int .i64 x), .bool b] t) :
    Calls Tryd.prog 50 #[.pointer (some ⟨B, 0, none⟩), .slice none 0 0] w fun e w' => e = .returned (.int .i64 0) ∧ Ln w' 102 105 B R 1 #[(.int .i64 0), .bool false] (t + 1) ∧ Far (fun k => k = B ∨ k = R) w w' := by
  have hBR : B ≠ R := L.ne (by decide)
  have hRB : R ≠ B := fun e => hBR e.symm
  have hlB : B < w.heap.size := lt_of_blk L.1
  have hlR : R < w.heap.size := lt_of_blk L.2
  have a0 : w.cell? ⟨B, 0, none⟩ = some (.slice (some ⟨R, 0, none⟩) 1 1) := row_cell L.1 0
  have a1 : ∀ o, (w.alloc o).cell? ⟨B, 0, none⟩ = some (.slice (some ⟨R, 0, none⟩) 1 1) := fun o => row_cell (L.alloc o).1 0
  have a2 : ∀ o, (w.alloc o).heap[R]? = some (.cells #[(.int .i64 x), .bool b] 105 (0, 0)) := fun o => (L.alloc o).2
  have hcp := fun o => run_copy_none (P := Tryd.prog) (w.alloc o).drew 100 100 3 105 R Tryd.underlying100 (by kernel_rfl)
  have HL := hide (And.intro L.1 (And.intro L.2 (Far.refl (fun k => k = B ∨ k = R) w)))
  obtain ⟨W1, hW1⟩ : ∃ W1, W1 = (w.alloc (Obj.cells #[(.int .i64 0), .bool false] 105)).drew := ⟨_, rfl⟩
  have H1 : W1.heap[B]? = some (.cells #[.slice (some ⟨R, 0, none⟩) 1 1, .int .i64 t] 102 (0, 0)) := by rw [hW1]; exact (Below.heap_alloc w _ B hlB).trans L.1
  have H2 : W1.heap[R]? = some (.cells #[(.int .i64 x), .bool b] 105 (0, 0)) := by rw [hW1]; exact (Below.heap_alloc w _ R hlR).trans L.2
  have H3 : W1.heap[w.heap.size]? = some (.cells #[(.int .i64 0), .bool false] 105 (0, 0)) := by rw [hW1]; exact heap_alloc_new w _
  have HF : Hid (Far (fun k => k = B ∨ k = R) w W1) := by rw [hW1]; exact ((Far.refl _ w).alloc _).drew
  have HW := hide hW1
  have K1 := hide H1
  have K2 := hide H2
  have K3 := hide H3
  clear L a2 hW1 H1 H2 H3
  go_enter Tryd.func50, Tryd.ntmps50
  go_wp2_with (go_at_call 63; refine (there_yes B R 1 _ (by omega) a0).mono ?_; rintro e w' ⟨rfl, rfl⟩)
  refine wp_loop_rounds 1 ?_; rw [rounds_succ]; go_wp2_with fail
  go_region
  rw [← HW.out]
  have b0 := row_cell K1.out 0
  have b1 := row_cell K1.out 1
  have g1 := row_free K1.out 1
  have r2 := row_cell K2.out 0
  have r3 := row_cell K2.out 1
  have k2 := row_free K2.out 0
  have k3 := row_free K2.out 1
  have n0 := row_cell K3.out 0
  have n1 := row_cell K3.out 1
  clear hcp a0 a1
  simp at b0 b1 r2 r3 n0 n1
  go_wp2_with fail
  go_region
  go_wp2_with fail
  go_ret
  refine ⟨rfl, ⟨?_, ?_⟩, ?_⟩
  · exact row_set ((Below.heap_setCell _ _ _ _ hBR).trans ((Below.heap_setCell _ _ _ _ hBR).trans K1.out)) 1 _
  · exact (Below.heap_setCell _ _ _ _ hRB).trans (row_set (row_set K2.out _ _) _ _)
  · exact (((HF.out.setCell (.inl (.inr rfl)) _).setCell (.inl (.inr rfl)) _).setCell (.inl (.inl rfl)) _).drew
set_option maxRecDepth 100000 in
set_option maxHeartbeats 1000000 in
theorem send1s (B R : Nat) (x : Int) (b : Bool) (t : Int) (v : Int) (ad : Addr) (scap : Nat) (w : World) (ht : 0 ≤ t) (ht' : t ≤ 1000000) (L : Ln w 102 105 B R 1 #[(.int .i64 x), .bool b] t) (hc : w.cell? ad = some (.int .i64 v)) :
    Calls Tryd.prog 50 #[.pointer (some ⟨B, 0, none⟩), .slice (some ad) 1 scap] w fun e w' => e = .returned (.int .i64 0) ∧ Ln w' 102 105 B R 1 #[(.int .i64 v), .bool true] (t + 1) ∧ Far (fun k => k = B ∨ k = R) w w' := by
  have hBR : B ≠ R := L.ne (by decide)
  have hRB : R ≠ B := fun e => hBR e.symm
  have hlB : B < w.heap.size := lt_of_blk L.1
  have hlR : R < w.heap.size := lt_of_blk L.2
  have a0 : w.cell? ⟨B, 0, none⟩ = some (.slice (some ⟨R, 0, none⟩) 1 1) := row_cell L.1 0
  have a1 : ∀ o, (w.alloc o).cell? ⟨B, 0, none⟩ = some (.slice (some ⟨R, 0, none⟩) 1 1) := fun o => row_cell (L.alloc o).1 0
  have a2 : ∀ o, (w.alloc o).heap[R]? = some (.cells #[(.int .i64 x), .bool b] 105 (0, 0)) := fun o => (L.alloc o).2
  have hcp := fun o => run_copy_none (P := Tryd.prog) (w.alloc o).drew 100 100 3 105 R Tryd.underlying100 (by kernel_rfl)
  have ha := lt_of_cell hc
  have hca : ∀ o, (w.alloc o).cell? ad = some (.int .i64 v) := fun o => (World.cell?_alloc_lt w o ad ha).trans hc
  have HL := hide (And.intro L.1 (And.intro L.2 (Far.refl (fun k => k = B ∨ k = R) w)))
  obtain ⟨W1, hW1⟩ : ∃ W1, W1 = (w.alloc (Obj.cells #[(.int .i64 v), .bool true] 105)).drew := ⟨_, rfl⟩
  have H1 : W1.heap[B]? = some (.cells #[.slice (some ⟨R, 0, none⟩) 1 1, .int .i64 t] 102 (0, 0)) := by rw [hW1]; exact (Below.heap_alloc w _ B hlB).trans L.1
  have H2 : W1.heap[R]? = some (.cells #[(.int .i64 x), .bool b] 105 (0, 0)) := by rw [hW1]; exact (Below.heap_alloc w _ R hlR).trans L.2
  have H3 : W1.heap[w.heap.size]? = some (.cells #[(.int .i64 v), .bool true] 105 (0, 0)) := by rw [hW1]; exact heap_alloc_new w _
  have HF : Hid (Far (fun k => k = B ∨ k = R) w W1) := by rw [hW1]; exact ((Far.refl _ w).alloc _).drew
  have HW := hide hW1
  have K1 := hide H1
  have K2 := hide H2
  have K3 := hide H3
  clear L a2 hW1 H1 H2 H3
  go_enter Tryd.func50, Tryd.ntmps50
  go_wp2_with (go_at_call 63; refine (there_yes B R 1 _ (by omega) a0).mono ?_; rintro e w' ⟨rfl, rfl⟩)
  refine wp_loop_rounds 2 ?_; rw [rounds_succ]; go_wp2_with fail; rw [rounds_succ]; go_wp2_with fail
  go_region
  rw [← HW.out]
  have b0 := row_cell K1.out 0
  have b1 := row_cell K1.out 1
  have g1 := row_free K1.out 1
  have r2 := row_cell K2.out 0
  have r3 := row_cell K2.out 1
  have k2 := row_free K2.out 0
  have k3 := row_free K2.out 1
  have n0 := row_cell K3.out 0
  have n1 := row_cell K3.out 1
  clear hcp a0 a1
  simp at b0 b1 r2 r3 n0 n1
  go_wp2_with fail
  go_region
  go_wp2_with fail
  go_ret
  refine ⟨rfl, ⟨?_, ?_⟩, ?_⟩
  · exact row_set ((Below.heap_setCell _ _ _ _ hBR).trans ((Below.heap_setCell _ _ _ _ hBR).trans K1.out)) 1 _
  · exact (Below.heap_setCell _ _ _ _ hRB).trans (row_set (row_set K2.out _ _) _ _)
  · exact (((HF.out.setCell (.inl (.inr rfl)) _).setCell (.inl (.inr rfl)) _).setCell (.inl (.inl rfl)) _).drew
theorem new1 (w : World) : Calls Tryd.prog 47 #[.int .i64 1] w fun e w' => e = .returned (.tuple #[.pointer (some ⟨w.heap.size + 1, 0, none⟩), .int .i64 0]) ∧ Ln w' 102 105 (w.heap.size + 1) w.heap.size 1 #[(.int .i64 0), .bool false] 0 ∧ Far (fun _ => False) w w' := by
  have hmk : ∀ w : World, (Instr.makeSlice 100 (.int .i64 1) (.int .i64 1)).run Tryd.prog w = .ok (.slice (some ⟨w.heap.size, 0, none⟩) 1 1) (w.alloc (.cells #[(.int .i64 0), .bool false] 105)) := fun _ => by kernel_rfl
  go_enter Tryd.func47, Tryd.ntmps47
  go_wp2_with fail
  go_ret2
  refine ⟨rfl, ⟨?_, ?_⟩, ((Far.refl _ w).alloc _).alloc _⟩
  · have := heap_alloc_new (w.alloc (.cells #[(.int .i64 0), .bool false] 105)) (.cells #[.slice (some ⟨w.heap.size, 0, none⟩) 1 1, .int .i64 0] 102)
    rw [alloc_size] at this
    exact this
  · exact (Below.heap_alloc _ _ _ (by rw [alloc_size]; omega)).trans (heap_alloc_new w _)
set_option maxRecDepth 100000 in
set_option maxHeartbeats 1000000 in
theorem send2n (B R : Nat) (x : Int) (b : Bool) (y : Int) (c : Bool) (t : Int) (w : World) (ht : 0 ≤ t) (ht' : t ≤ 1000000) (L : Ln w 102 105 B R 2 #[(.int .i64 x), .bool b, (.int .i64 y), .bool c] t) :
    Calls Tryd.prog 50 #[.pointer (some ⟨B, 0, none⟩), .slice none 0 0] w fun e w' => e = .returned (.int .i64 0) ∧ Ln w' 102 105 B R 2 #[(.int .i64 y), .bool c, (.int .i64 0), .bool false] (t + 1) ∧ Far (fun k => k = B ∨ k = R) w w' := by
  have hBR : B ≠ R := L.ne (by decide)
  have hRB : R ≠ B := fun e => hBR e.symm
  have hlB : B < w.heap.size := lt_of_blk L.1
  have hlR : R < w.heap.size := lt_of_blk L.2
  have a0 : w.cell? ⟨B, 0, none⟩ = some (.slice (some ⟨R, 0, none⟩) 2 2) := row_cell L.1 0
  have a1 : ∀ o, (w.alloc o).cell? ⟨B, 0, none⟩ = some (.slice (some ⟨R, 0, none⟩) 2 2) := fun o => row_cell (L.alloc o).1 0
  have a2 : ∀ o, (w.alloc o).heap[R]? = some (.cells #[(.int .i64 x), .bool b, (.int .i64 y), .bool c] 105 (0, 0)) := fun o => (L.alloc o).2
  have hcp := fun o => run_copy_down (P := Tryd.prog) (w.alloc o).drew 100 100 3 105 105 R (.int .i64 x) (.bool b) (.int .i64 y) (.bool c) Tryd.underlying100 (by kernel_rfl) (a2 o) rfl rfl
  have HL := hide (And.intro L.1 (And.intro L.2 (Far.refl (fun k => k = B ∨ k = R) w)))
  obtain ⟨W1, hW1⟩ : ∃ W1, W1 = ((w.alloc (Obj.cells #[(.int .i64 0), .bool false] 105)).drew.setRow R #[(.int .i64 y), .bool c, (.int .i64 y), .bool c]) := ⟨_, rfl⟩
  have H1 : W1.heap[B]? = some (.cells #[.slice (some ⟨R, 0, none⟩) 2 2, .int .i64 t] 102 (0, 0)) := by rw [hW1]; exact by rw [setRow_far _ _ _ _ hBR]; exact (Below.heap_alloc w _ B hlB).trans L.1
  have H2 : W1.heap[R]? = some (.cells #[(.int .i64 y), .bool c, (.int .i64 y), .bool c] 105 (0, 0)) := by rw [hW1]; exact setRow_heap _ _ _ _ _ _ ((Below.heap_alloc w _ R hlR).trans L.2)
  have H3 : W1.heap[w.heap.size]? = some (.cells #[(.int .i64 0), .bool false] 105 (0, 0)) := by rw [hW1]; exact by rw [setRow_far _ _ _ _ (by omega)]; exact heap_alloc_new w _
  have HF : Hid (Far (fun k => k = B ∨ k = R) w W1) := by rw [hW1]; exact (((Far.refl _ w).alloc _).drew).setRow (.inl (.inr rfl)) _
  have HW := hide hW1
  have K1 := hide H1
  have K2 := hide H2
  have K3 := hide H3
  clear L a2 hW1 H1 H2 H3
  go_enter Tryd.func50, Tryd.ntmps50
  go_wp2_with (go_at_call 63; refine (there_yes B R 2 _ (by omega) a0).mono ?_; rintro e w' ⟨rfl, rfl⟩)
  refine wp_loop_rounds 1 ?_; rw [rounds_succ]; go_wp2_with fail
  go_region
  rw [← HW.out]
  have b0 := row_cell K1.out 0
  have b1 := row_cell K1.out 1
  have g1 := row_free K1.out 1
  have r2 := row_cell K2.out 2
  have r3 := row_cell K2.out 3
  have k2 := row_free K2.out 2
  have k3 := row_free K2.out 3
  have n0 := row_cell K3.out 0
  have n1 := row_cell K3.out 1
  clear hcp a0 a1
  simp at b0 b1 r2 r3 n0 n1
  go_wp2_with fail
  go_region
  go_wp2_with fail
  go_ret
  refine ⟨rfl, ⟨?_, ?_⟩, ?_⟩
  · exact row_set ((Below.heap_setCell _ _ _ _ hBR).trans ((Below.heap_setCell _ _ _ _ hBR).trans K1.out)) 1 _
  · exact (Below.heap_setCell _ _ _ _ hRB).trans (row_set (row_set K2.out _ _) _ _)
  · exact (((HF.out.setCell (.inl (.inr rfl)) _).setCell (.inl (.inr rfl)) _).setCell (.inl (.inl rfl)) _).drew
set_option maxRecDepth 100000 in
set_option maxHeartbeats 1000000 in
theorem send2s (B R : Nat) (x : Int) (b : Bool) (y : Int) (c : Bool) (t : Int) (v : Int) (ad : Addr) (scap : Nat) (w : World) (ht : 0 ≤ t) (ht' : t ≤ 1000000) (L : Ln w 102 105 B R 2 #[(.int .i64 x), .bool b, (.int .i64 y), .bool c] t) (hc : w.cell? ad = some (.int .i64 v)) :
    Calls Tryd.prog 50 #[.pointer (some ⟨B, 0, none⟩), .slice (some ad) 1 scap] w fun e w' => e = .returned (.int .i64 0) ∧ Ln w' 102 105 B R 2 #[(.int .i64 y), .bool c, (.int .i64 v), .bool true] (t + 1) ∧ Far (fun k => k = B ∨ k = R) w w' := by
  have hBR : B ≠ R := L.ne (by decide)
  have hRB : R ≠ B := fun e => hBR e.symm
  have hlB : B < w.heap.size := lt_of_blk L.1
  have hlR : R < w.heap.size := lt_of_blk L.2
  have a0 : w.cell? ⟨B, 0, none⟩ = some (.slice (some ⟨R, 0, none⟩) 2 2) := row_cell L.1 0
  have a1 : ∀ o, (w.alloc o).cell? ⟨B, 0, none⟩ = some (.slice (some ⟨R, 0, none⟩) 2 2) := fun o => row_cell (L.alloc o).1 0
  have a2 : ∀ o, (w.alloc o).heap[R]? = some (.cells #[(.int .i64 x), .bool b, (.int .i64 y), .bool c] 105 (0, 0)) := fun o => (L.alloc o).2
  have hcp := fun o => run_copy_down (P := Tryd.prog) (w.alloc o).drew 100 100 3 105 105 R (.int .i64 x) (.bool b) (.int .i64 y) (.bool c) Tryd.underlying100 (by kernel_rfl) (a2 o) rfl rfl
  have ha := lt_of_cell hc
  have hca : ∀ o, (w.alloc o).cell? ad = some (.int .i64 v) := fun o => (World.cell?_alloc_lt w o ad ha).trans hc
  have HL := hide (And.intro L.1 (And.intro L.2 (Far.refl (fun k => k = B ∨ k = R) w)))
  obtain ⟨W1, hW1⟩ : ∃ W1, W1 = ((w.alloc (Obj.cells #[(.int .i64 v), .bool true] 105)).drew.setRow R #[(.int .i64 y), .bool c, (.int .i64 y), .bool c]) := ⟨_, rfl⟩
  have H1 : W1.heap[B]? = some (.cells #[.slice (some ⟨R, 0, none⟩) 2 2, .int .i64 t] 102 (0, 0)) := by rw [hW1]; exact by rw [setRow_far _ _ _ _ hBR]; exact (Below.heap_alloc w _ B hlB).trans L.1
  have H2 : W1.heap[R]? = some (.cells #[(.int .i64 y), .bool c, (.int .i64 y), .bool c] 105 (0, 0)) := by rw [hW1]; exact setRow_heap _ _ _ _ _ _ ((Below.heap_alloc w _ R hlR).trans L.2)
  have H3 : W1.heap[w.heap.size]? = some (.cells #[(.int .i64 v), .bool true] 105 (0, 0)) := by rw [hW1]; exact by rw [setRow_far _ _ _ _ (by omega)]; exact heap_alloc_new w _
  have HF : Hid (Far (fun k => k = B ∨ k = R) w W1) := by rw [hW1]; exact (((Far.refl _ w).alloc _).drew).setRow (.inl (.inr rfl)) _
  have HW := hide hW1
  have K1 := hide H1
  have K2 := hide H2
  have K3 := hide H3
  clear L a2 hW1 H1 H2 H3
  go_enter Tryd.func50, Tryd.ntmps50
  go_wp2_with (go_at_call 63; refine (there_yes B R 2 _ (by omega) a0).mono ?_; rintro e w' ⟨rfl, rfl⟩)
  refine wp_loop_rounds 2 ?_; rw [rounds_succ]; go_wp2_with fail; rw [rounds_succ]; go_wp2_with fail
  go_region
  rw [← HW.out]
  have b0 := row_cell K1.out 0
  have b1 := row_cell K1.out 1
  have g1 := row_free K1.out 1
  have r2 := row_cell K2.out 2
  have r3 := row_cell K2.out 3
  have k2 := row_free K2.out 2
  have k3 := row_free K2.out 3
  have n0 := row_cell K3.out 0
  have n1 := row_cell K3.out 1
  clear hcp a0 a1
  simp at b0 b1 r2 r3 n0 n1
  go_wp2_with fail
  go_region
  go_wp2_with fail
  go_ret
  refine ⟨rfl, ⟨?_, ?_⟩, ?_⟩
  · exact row_set ((Below.heap_setCell _ _ _ _ hBR).trans ((Below.heap_setCell _ _ _ _ hBR).trans K1.out)) 1 _
  · exact (Below.heap_setCell _ _ _ _ hRB).trans (row_set (row_set K2.out _ _) _ _)
  · exact (((HF.out.setCell (.inl (.inr rfl)) _).setCell (.inl (.inr rfl)) _).setCell (.inl (.inl rfl)) _).drew
theorem new2 (w : World) : Calls Tryd.prog 47 #[.int .i64 2] w fun e w' => e = .returned (.tuple #[.pointer (some ⟨w.heap.size + 1, 0, none⟩), .int .i64 0]) ∧ Ln w' 102 105 (w.heap.size + 1) w.heap.size 2 #[(.int .i64 0), .bool false, (.int .i64 0), .bool false] 0 ∧ Far (fun _ => False) w w' := by
  have hmk : ∀ w : World, (Instr.makeSlice 100 (.int .i64 2) (.int .i64 2)).run Tryd.prog w = .ok (.slice (some ⟨w.heap.size, 0, none⟩) 2 2) (w.alloc (.cells #[(.int .i64 0), .bool false, (.int .i64 0), .bool false] 105)) := fun _ => by kernel_rfl
  go_enter Tryd.func47, Tryd.ntmps47
  go_wp2_with fail
  go_ret2
  refine ⟨rfl, ⟨?_, ?_⟩, ((Far.refl _ w).alloc _).alloc _⟩
  · have := heap_alloc_new (w.alloc (.cells #[(.int .i64 0), .bool false, (.int .i64 0), .bool false] 105)) (.cells #[.slice (some ⟨w.heap.size, 0, none⟩) 2 2, .int .i64 0] 102)
    rw [alloc_size] at this
    exact this
  · exact (Below.heap_alloc _ _ _ (by rw [alloc_size]; omega)).trans (heap_alloc_new w _)
theorem new_bad (h : Int) (w : World) (hb : h < 1 ∨ 2 < h) : Calls Tryd.prog 47 #[.int .i64 h] w fun e w' => e = .returned (.tuple #[.pointer none, .int .i64 1]) ∧ w = w' := by
  rcases hb with hb | hb
  · go_enter Tryd.func47, Tryd.ntmps47
    go_wp2
    go_ret2
    exact ⟨rfl, rfl⟩
  · have h1 : ¬ h < 1 := by omega
    go_enter Tryd.func47, Tryd.ntmps47
    go_wp2
    go_ret2
    exact ⟨rfl, rfl⟩
end L_int
end Go.Proofs.YtbniijmabebhoaaDoor
