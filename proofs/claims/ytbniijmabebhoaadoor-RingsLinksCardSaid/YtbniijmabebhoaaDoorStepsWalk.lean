/- The walk of RingsSteps: Step and Distance answer as the reference does; nothing that was there has turned. -/
import Derived.Test.YtbniijmabebhoaaDoorRef2
import Derived.Deep.RegionHeld3
namespace Go.Proofs.YtbniijmabebhoaaDoor
open Go.RowKit
set_option linter.unusedVariables false
/-- What the last region's operations keep: the box's two cells, the signs, and all that was there. -/
structure StH (w w' : World) : Prop where
  sg : Signs w'
  bel : Below w.heap.size w w'
  big : w.heap.size < w'.heap.size
theorem StH.drew {w w' : World} (h : StH w w') : StH w w'.drew := ⟨h.sg, h.bel.drew, h.big⟩
def StS (w : World) (c0 c1 : Int) (w' : World) : Prop := w'.cell? ⟨w.heap.size, 0, none⟩ = some (.int .i64 c0) ∧ w'.cell? ⟨w.heap.size, 1, none⟩ = some (.int .i64 c1) ∧ StH w w'
section
variable {w W : World} {c0 c1 : Int}
theorem StS.drewN (h : StS w c0 c1 W) (n : Nat) : StS w c0 c1 (W.drewN n) := ⟨h.1, h.2.1, h.2.2.sg, below_drewN h.2.2.bel n, h.2.2.big⟩
theorem st_step (n d a s : Int) (hd : 0 ≤ d) (h : StS w c0 c1 W) : Calls Tryd.prog 28 #[.int .i64 n, .int .u8 d, .int .i64 a, .int .i64 s] W fun e w' => e = .returned (.int .i64 (Rg.step n d a s)) ∧ StS w c0 c1 w' :=
  (step_any n d a s W hd h.2.2.sg).mono fun e w' ⟨he, m, hw⟩ => ⟨he, by rw [hw]; exact h.drewN m⟩
theorem st_rstep (n d a s : Int) (hd : 0 ≤ d) (h : StS w c0 c1 W) : Calls Tryd.prog 29 #[.int .i64 n, .int .u8 d, .int .i64 a, .int .i64 s] W fun e w' => e = .returned (.int .i64 (Rg.step n d a s)) ∧ StS w c0 c1 w' :=
  (rstep_any n d a s W hd).mono fun e w' ⟨he, hw⟩ => ⟨he, by rw [← hw]; exact h⟩
theorem st_dist (n d a s : Int) (hd : 0 ≤ d) (h : StS w c0 c1 W) : Calls Tryd.prog 30 #[.int .i64 n, .int .u8 d, .int .i64 a, .int .i64 s] W fun e w' => e = .returned (.int .i64 (Rg.dist n d a s)) ∧ StS w c0 c1 w' :=
  (dist_any n d a s W hd h.2.2.sg).mono fun e w' ⟨he, hw⟩ => ⟨he, by rw [← hw]; exact h⟩
theorem st_rdist (n d a s : Int) (hd : 0 ≤ d) (h : StS w c0 c1 W) : Calls Tryd.prog 31 #[.int .i64 n, .int .u8 d, .int .i64 a, .int .i64 s] W fun e w' => e = .returned (.int .i64 (Rg.dist n d a s)) ∧ StS w c0 c1 w' :=
  (rdist_any n d a s W hd).mono fun e w' ⟨he, hw⟩ => ⟨he, by rw [← hw]; exact h⟩
theorem st_lives (hs : 0 < w.heap.size) (h : StS w c0 c1 W) : Calls Tryd.prog 32 #[] W fun e w' => e = .returned (.bool true) ∧ StS w c0 c1 w' :=
  (rlives_any W h.2.2.sg).mono fun e w' ⟨he, hb⟩ => ⟨he, (hb.cell (p := ⟨w.heap.size, 0, none⟩) h.2.2.big).trans h.1, (hb.cell (p := ⟨w.heap.size, 1, none⟩) h.2.2.big).trans h.2.1, ⟨h.2.2.sg.below hb (by have := h.2.2.big; omega), h.2.2.bel.trans (hb.mono h.2.2.bel.size), Nat.lt_of_lt_of_le h.2.2.big hb.size⟩⟩
end
set_option maxRecDepth 100000 in
set_option maxHeartbeats 4000000 in
theorem steps_walk (n d c0 c1 : Int) (w : World) (h2 : 0 ≤ d) (h3 : d ≤ 255) (hs : 0 < w.heap.size) (g : Signs w) :
    Calls Tryd.prog 5 #[.int .i64 n, .int .u8 d, .agg #[.int .i64 c0, .int .i64 c1]] w fun e w' => e = .returned (.bool true) ∧ Below w.heap.size w w' := by
  have hS0 : StS w c0 c1 (w.alloc (.cells #[.int .i64 c0, .int .i64 c1] 56)) := ⟨cell_new w _ _ _ 0, cell_new w _ _ _ 1, ⟨⟨(World.cell?_alloc_lt w _ ⟨0, 0, none⟩ hs).trans g.1, (World.cell?_alloc_lt w _ ⟨0, 1, none⟩ hs).trans g.2⟩, Below.alloc (Below.refl _ _) (Nat.le_refl _) _, by rw [alloc_size]; omega⟩⟩
  have HS := hide hS0
  clear hS0 g
  go_enter Tryd.func5, Tryd.ntmps5
  go_wp2_with fail
  generalize w.alloc (.cells #[.int .i64 c0, .int .i64 c1] 56) = W0 at HS ⊢
  have hS0 := HS.out
  obtain ⟨hc0, hc1, hst⟩ := hS0
  go_region_held3 (fun w' => w'.cell? ⟨w.heap.size, 0, none⟩ = some (.int .i64 c0) ∧ w'.cell? ⟨w.heap.size, 1, none⟩ = some (.int .i64 c1) ∧ StH w w')
    (first | exact ⟨by assumption, by assumption, by assumption⟩ | exact ⟨by assumption, by assumption, StH.drew (by assumption)⟩ | assumption | exact StH.drew (by assumption))
    (first
      | (go_at_call 28; refine (st_step (w := w) (c0 := c0) (c1 := c1) _ _ _ _ h2 (by first | assumption | exact ⟨by assumption, by assumption, by assumption⟩)).mono ?_; rintro e w1 ⟨rfl, k0, k1, k2⟩)
      | (go_at_call 29; refine (st_rstep (w := w) (c0 := c0) (c1 := c1) _ _ _ _ h2 (by first | assumption | exact ⟨by assumption, by assumption, by assumption⟩)).mono ?_; rintro e w1 ⟨rfl, k0, k1, k2⟩)
      | (go_at_call 30; refine (st_dist (w := w) (c0 := c0) (c1 := c1) _ _ _ _ h2 (by first | assumption | exact ⟨by assumption, by assumption, by assumption⟩)).mono ?_; rintro e w1 ⟨rfl, k0, k1, k2⟩)
      | (go_at_call 31; refine (st_rdist (w := w) (c0 := c0) (c1 := c1) _ _ _ _ h2 (by first | assumption | exact ⟨by assumption, by assumption, by assumption⟩)).mono ?_; rintro e w1 ⟨rfl, k0, k1, k2⟩)
      | (go_at_call 32; refine (st_lives (w := w) (c0 := c0) (c1 := c1) hs (by first | assumption | exact ⟨by assumption, by assumption, by assumption⟩)).mono ?_; rintro e w1 ⟨rfl, k0, k1, k2⟩))
  go_wp2_with fail
  go_ret
  exact ⟨rfl, StH.bel (by assumption)⟩
end Go.Proofs.YtbniijmabebhoaaDoor
