/- The end of a tick, in the reference of layer 8. -/
import Derived.Test.YtbniijmabebhoaaDoorWRefC
import Derived.Deep.AppendLies
import Derived.Deep.RegionLaw

namespace Go.Proofs.YtbniijmabebhoaaDoor
open Go.RowKit
set_option linter.unusedVariables false
namespace Wr
open Mp
section
variable {w w' : World} {base Br O cap n : Nat} {rb : Nat → Nat} {H : List (Int → Option Int)} {G : Int → Option Int}
theorem hds_snoc (rb : Nat → Nat) (n N R : Nat) : hds rb n N ++ [.slice (some ⟨R, 0, none⟩) (4 * n) (4 * n)] = hds (fun i => if i = N then R else rb i) n (N + 1) := by
  unfold hds
  rw [List.range_succ, List.map_append, List.map_singleton]
  congr 1
  · refine List.map_congr_left fun i hi => ?_
    have : i ≠ N := by have := List.mem_range.1 hi; omega
    simp only [if_neg this]
  · simp
theorem full_push (H : List (Int → Option Int)) (G Z : Int → Option Int) (i : Nat) (h : i ≤ H.length) : full (G :: H) Z i = full H G i := by
  funext j
  unfold full
  rw [List.length_cons, show H.length + 1 - i = (H.length - i) + 1 from by omega, past_succ]
/-- A row more. -/
theorem Rf.more {w w0 w1 : World} {g1 cap1 : Nat} (h : Rf w base Br O cap rb n H G) (hb : base ≤ w.heap.size) (F0 : Far (fun _ => False) w w0) (hR : w0.heap[w.heap.size]? = some (.cells (rowA (fun _ => none) (4 * n)) 36 (0, 0)))
    (hown : w1.ownsRow base 86 1 (.slice (some ⟨g1, 0, none⟩) (H.length + 1 + 1) cap1) (H.length + 1 + 1) (hds rb n (H.length + 1) ++ [.slice (some ⟨w.heap.size, 0, none⟩) (4 * n) (4 * n)])) (hg : w0.grownBy w1 (some O)) :
    Rf (w1.setCell ⟨Br, 1, none⟩ (.slice (some ⟨g1, 0, none⟩) (H.length + 1 + 1) cap1)) base Br g1 cap1 (fun i => if i = H.length + 1 then w.heap.size else rb i) n (G :: H) (fun _ => none) ∧
    Far (fun k => k = Br ∨ k = O) w (w1.setCell ⟨Br, 1, none⟩ (.slice (some ⟨g1, 0, none⟩) (H.length + 1 + 1) cap1)) := by
  have F1 : Far (fun k => k = O) w0 w1 := ⟨hg.os, hg.tape, hg.output, hg.size, fun k hk hn => hg.block k hk (fun e => hn (by injection e))⟩
  have F01 : Far (fun k => k = O) w w1 := (F0.wide (fun _ e => e.elim)).trans F1
  have F2 : Far (fun k => k = Br) w1 (w1.setCell ⟨Br, 1, none⟩ (.slice (some ⟨g1, 0, none⟩) (H.length + 1 + 1) cap1)) := Far.setCell (S := fun k => k = Br) (Far.refl _ w1) (.inl rfl) _
  have N := h.ne H.length (Nat.le_refl _)
  have st1 := (F01.block _ (lt_of_blk h.st) N.1).trans h.st
  have lt0 : w.heap.size < w0.heap.size := lt_of_blk hR
  have hO : O < w.heap.size := by obtain ⟨_, ho, _⟩ := h.out; exact lt_of_blk ho
  have ltr := fun i (hi : i ≤ H.length) => lt_of_blk (h.row i hi)
  have hR1 : w1.heap[w.heap.size]? = some (.cells (rowA (fun _ => none) (4 * n)) 36 (0, 0)) := (F1.block _ lt0 (by show w.heap.size ≠ O; omega)).trans hR
  have own1 : (w1.setCell ⟨Br, 1, none⟩ (.slice (some ⟨g1, 0, none⟩) (H.length + 1 + 1) cap1)).ownsRow base 86 1 (.slice (some ⟨g1, 0, none⟩) (H.length + 1 + 1) cap1) (H.length + 1 + 1) (hds (fun i => if i = H.length + 1 then w.heap.size else rb i) n (H.length + 1 + 1)) := by
    rw [← hds_snoc]
    refine own_keep hown F2 (fun g hg => ?_)
    rcases hown.2 with ⟨h0, _⟩ | ⟨g', c, cur, e, _, hgg, _⟩
    · simp at h0
    · rw [e] at hg
      simp [Value.ownBlock] at hg
      subst hg
      exact fun e => ty_ne hgg st1 (by decide) e
  refine ⟨⟨h.n4, h.n16, ?_, own1, fun i hi => ?_, fun i j hi hj hne => ?_, h.lo.1, fun i hi => ?_⟩, (F01.wide (fun k e => .inr e)).trans (F2.wide (fun k e => .inl e))⟩
  · exact row_set st1 1 _
  · simp only [List.length_cons] at hi
    by_cases hl : i = H.length + 1
    · subst hl
      simp only [if_true]
      rw [show full (G :: H) (fun _ => none) (H.length + 1) = fun _ => none from full_last (G :: H) _]
      exact (F2.block _ (lt_of_blk hR1) (fun e => ty_ne hR1 st1 (by decide) e)).trans hR1
    · simp only [if_neg hl]
      have hil : i ≤ H.length := by omega
      rw [full_push H G _ i hil]
      have r1 := (F01.block _ (ltr i hil) (fun e => (h.ne i hil).2.2 e.symm)).trans (h.row i hil)
      exact (F2.block _ (lt_of_blk r1) (fun e => (h.ne i hil).2.1 e.symm)).trans r1
  · simp only [List.length_cons] at hi hj
    by_cases h1 : i = H.length + 1
    · have h2 : ¬ j = H.length + 1 := by omega
      simp only [if_pos h1, if_neg h2]
      have := ltr j (by omega)
      omega
    · by_cases h2 : j = H.length + 1
      · simp only [if_neg h1, if_pos h2]
        have := ltr i (by omega)
        omega
      · simp only [if_neg h1, if_neg h2]
        exact h.inj i j (by omega) (by omega) hne
  · simp only [List.length_cons] at hi
    by_cases h1 : i = H.length + 1
    · simp only [if_pos h1]; exact hb
    · simp only [if_neg h1]; exact h.lo.2 i (by omega)
set_option maxRecDepth 100000 in
set_option maxHeartbeats 8000000 in
theorem rend_any (h : Rf w base Br O cap rb n H G) (hb : base ≤ w.heap.size) (hH : H.length ≤ 1000) : Calls Tryd.prog 22 #[ptr Br] w fun e w' => e = .returned (.tuple #[]) ∧ ∃ O' cap' rb', Rf w' base Br O' cap' rb' n (G :: H) (fun _ => none) ∧ Far (fun k => k = Br ∨ k = O) w w' := by
  obtain ⟨i0, hi, hz0, hz1, hz2⟩ := info_parts info86
  have hB := lt_of_blk h.st
  have c0 : w.cell? ⟨Br, 0, none⟩ = some (.int .i64 n) := row_cell h.st 0
  have c1 : w.cell? ⟨Br, 1, none⟩ = some (.slice (some ⟨O, 0, none⟩) (H.length + 1) cap) := row_cell h.st 1
  have MK := fun W => run_mkR n h.n16 W
  have hn16 := h.n16
  have hn4 := h.n4
  obtain ⟨C, hC⟩ : ∃ C, rowA (fun _ => none) (4 * n) = C := ⟨_, rfl⟩
  rw [hC] at MK
  have HC := hide hC
  obtain ⟨L, hL⟩ : ∃ L, H.length = L := ⟨_, rfl⟩
  have a0 := fun o => (World.cell?_alloc_lt w o ⟨Br, 0, none⟩ hB).trans c0
  have a1 := fun o => (World.cell?_alloc_lt w o ⟨Br, 1, none⟩ hB).trans c1
  have b1 := fun o o' => (World.cell?_alloc_lt (w.alloc o) o' ⟨Br, 1, none⟩ (by rw [alloc_size]; show Br < _; omega)).trans (a1 o)
  obtain ⟨W2, hW2⟩ : ∃ W2, (w.alloc (.cells C 36)).alloc (.cells #[.slice (some ⟨w.heap.size, 0, none⟩) (4 * n) (4 * n)] 86) = W2 := ⟨_, rfl⟩
  have z1 : (w.alloc (.cells C 36)).heap.size = w.heap.size + 1 := alloc_size _ _
  have z2 : W2.heap.size = w.heap.size + 1 + 1 := by rw [← hW2, alloc_size, z1]
  have NB : W2.heap[w.heap.size + 1]? = some (.cells #[.slice (some ⟨w.heap.size, 0, none⟩) (4 * n) (4 * n)] 86 (0, 0)) := by
    rw [← hW2]
    have := heap_alloc_new (w.alloc (.cells C 36)) (.cells #[.slice (some ⟨w.heap.size, 0, none⟩) (4 * n) (4 * n)] 86)
    rwa [z1] at this
  have NR : W2.heap[w.heap.size]? = some (.cells C 36 (0, 0)) := by
    rw [← hW2]
    exact (Below.heap_alloc _ _ _ (by omega)).trans (heap_alloc_new w _)
  have NO := (h.ne H.length (Nat.le_refl _)).1
  have SB : W2.heap[Br]? = some (.cells #[.int .i64 n, .slice (some ⟨O, 0, none⟩) (H.length + 1) cap] 46 (0, 0)) := by
    rw [← hW2]
    exact (Below.heap_alloc _ _ _ (by omega)).trans ((Below.heap_alloc _ _ _ hB).trans h.st)
  have F0 : Far (fun _ => False) w W2 := by rw [← hW2]; exact ((Far.refl _ w).alloc _).alloc _
  have HB1 := hide (fun (w1 : World) (hg : W2.drew.grownBy w1 (some O)) => (hg.block Br (by show Br < W2.heap.size; omega) (fun e => NO (by injection e))).trans SB)
  have FIN := hide (fun (g1 cap1 : Nat) (w1 : World) hown (hg : W2.drew.grownBy w1 (some O)) => Rf.more (w1 := w1) (g1 := g1) (cap1 := cap1) (w0 := W2.drew) h hb F0.drew (by rw [hC]; exact NR) hown hg)
  have NBH := hide NB
  have b2 : W2.cell? ⟨Br, 1, none⟩ = some (.slice (some ⟨O, 0, none⟩) (H.length + 1) cap) := row_cell SB 1
  have HO := hide (show W2.ownsRow base 86 1 _ _ _ from by rw [← hW2]; exact (h.own.alloc (.cells C 36)).alloc (.cells #[.slice (some ⟨w.heap.size, 0, none⟩) (4 * n) (4 * n)] 86))
  have hz2' : W2.heap.size = w.heap.size + 1 + 1 := z2
  rw [hL] at c1 a1 b1 b2 HO hH HB1 FIN
  have hbz : base ≤ W2.heap.size := by omega
  have hwr : IntKind.i64.wrap (4 * (n : Int)) = 4 * (n : Int) := by rw [IntKind.wrap_i64]; omega
  clear h hC z1 z2 NB NR NO SB F0 hz2'
  go_enter Tryd.func22, Tryd.ntmps22
  go_wp2_with fail
  go_region_law ((refine step_append_lies _ (by rfl) _ _ 44 (by rfl) base 86 i0 (.slice none 0 0) 1 24 Tryd.underlying44 hi hz0 hz1 hz2 (by rfl) (by decide) (.slice (some ⟨O, 0, none⟩) (L + 1) cap) (L + 1) (hds rb n (L + 1)) (by rfl) (show World.ownsRow (World.drew _) _ _ _ _ _ _ from HO.out) ⟨w.heap.size + 1, 0, none⟩ 1 1 [.slice (some ⟨w.heap.size, 0, none⟩) (4 * n) (4 * n)] (by rfl) (by rfl) (World.news_of_block (show (World.drew _).heap[_]? = _ from NBH.out)) (by simp [Value.oneCell']) (by omega) (by unfold maxLen; omega) (by omega) hbz (W2.heap.size) (by rfl) ?_; intro g1 cap1 w1 hown1 hg1 hat1 hlt1; have H1 := hide (HB1.out w1 hg1); have c1' := row_cell H1.out 1; have f1' := row_free H1.out 1))
  all_goals
    go_end0
    exact ⟨rfl, _, _, _, FIN.out _ _ _ hown1 hg1⟩
end
end Wr
end Go.Proofs.YtbniijmabebhoaaDoor
