/- The walk of RingsLinks: Ends, Source and Link answer as the reference does; nothing that was there has turned. -/
import Derived.Test.YtbniijmabebhoaaDoorRef4
import Derived.Test.YtbniijmabebhoaaDoorStepsWalk
namespace Go.Proofs.YtbniijmabebhoaaDoor
open Go.RowKit
set_option linter.unusedVariables false
section
variable {w W : World} {c0 c1 : Int}
theorem st_ends (n k : Int) (hk : k ≤ 9223372036854775807) (hk' : -9223372036854775808 ≤ k) (h : StS w c0 c1 W) : Calls Tryd.prog 33 #[.int .i64 n, .int .i64 k] W fun e w' => e = .returned (endsV n k) ∧ StS w c0 c1 w' := by
  cases e : Rg.endsB n k with
  | true => exact (ends_good n k W e h.2.2.sg).mono fun e' w' ⟨he, m, hw⟩ => ⟨by rw [he, endsV_good e], by rw [hw]; exact h.drewN m⟩
  | false => exact (ends_bad n k W e hk hk').mono fun e' w' ⟨he, hw⟩ => ⟨by rw [he, endsV_bad e], by rw [← hw]; exact h⟩
theorem st_rends (n k : Int) (h : StS w c0 c1 W) : Calls Tryd.prog 34 #[.int .i64 n, .int .i64 k] W fun e w' => e = .returned (endsV n k) ∧ StS w c0 c1 w' :=
  (rends_any n k W).mono fun e w' ⟨he, hw⟩ => ⟨he, by rw [← hw]; exact h⟩
theorem st_src (n d a s : Int) (hd : 0 ≤ d) (h : StS w c0 c1 W) : Calls Tryd.prog 35 #[.int .i64 n, .int .u8 d, .int .i64 a, .int .i64 s] W fun e w' => e = .returned (.int .i64 (Rg.src n d a s)) ∧ StS w c0 c1 w' :=
  (src_any n d a s W hd h.2.2.sg).mono fun e w' ⟨he, m, hw⟩ => ⟨he, by rw [hw]; exact h.drewN m⟩
theorem st_rsrc (n d a s : Int) (hd : 0 ≤ d) (h : StS w c0 c1 W) : Calls Tryd.prog 36 #[.int .i64 n, .int .u8 d, .int .i64 a, .int .i64 s] W fun e w' => e = .returned (.int .i64 (Rg.src n d a s)) ∧ StS w c0 c1 w' :=
  (rsrc_any n d a s W hd).mono fun e w' ⟨he, hw⟩ => ⟨he, by rw [← hw]; exact h⟩
theorem st_link (n d a s : Int) (hd : 0 ≤ d) (h : StS w c0 c1 W) : Calls Tryd.prog 37 #[.int .i64 n, .int .u8 d, .int .i64 a, .int .i64 s] W fun e w' => e = .returned (.int .i64 (Rg.link n d a s)) ∧ StS w c0 c1 w' :=
  (link_any n d a s W hd).mono fun e w' ⟨he, hw⟩ => ⟨he, by rw [← hw]; exact h⟩
theorem st_rlink (n d a s : Int) (hd : 0 ≤ d) (h : StS w c0 c1 W) : Calls Tryd.prog 38 #[.int .i64 n, .int .u8 d, .int .i64 a, .int .i64 s] W fun e w' => e = .returned (.int .i64 (Rg.link n d a s)) ∧ StS w c0 c1 w' :=
  (rlink_any n d a s W hd).mono fun e w' ⟨he, hw⟩ => ⟨he, by rw [← hw]; exact h⟩
end
set_option maxRecDepth 100000 in
set_option maxHeartbeats 8000000 in
theorem links_walk (n d c0 c1 : Int) (w : World) (h2 : 0 ≤ d) (h3 : d ≤ 255) (hk : c0 ≤ 9223372036854775807) (hk' : -9223372036854775808 ≤ c0) (hs : 0 < w.heap.size) (g : Signs w) :
    Calls Tryd.prog 6 #[.int .i64 n, .int .u8 d, .agg #[.int .i64 c0, .int .i64 c1]] w fun e w' => e = .returned (.bool true) ∧ Below w.heap.size w w' := by
  have hS0 : StS w c0 c1 (w.alloc (.cells #[.int .i64 c0, .int .i64 c1] 56)) := ⟨cell_new w _ _ _ 0, cell_new w _ _ _ 1, ⟨⟨(World.cell?_alloc_lt w _ ⟨0, 0, none⟩ hs).trans g.1, (World.cell?_alloc_lt w _ ⟨0, 1, none⟩ hs).trans g.2⟩, Below.alloc (Below.refl _ _) (Nat.le_refl _) _, by rw [alloc_size]; omega⟩⟩
  have HS := hide hS0
  have EV : ∃ x y z t : Int, endsV n c0 = .tuple #[.int .i64 x, .int .i64 y, .int .u8 z, .int .i64 t] := ⟨_, _, _, _, rfl⟩
  obtain ⟨x, y, z, t, EV⟩ := EV
  have EV := hide EV
  clear hS0 g
  go_enter Tryd.func6, Tryd.ntmps6
  go_wp2_with fail
  refine (st_ends (w := w) (c0 := c0) (c1 := c1) n c0 hk hk' HS.out).mono ?_
  rintro e w1 ⟨rfl, g0, g1, gst⟩
  rw [EV.out]
  clear HS
  go_wp2_with fail
  refine (st_rends (w := w) (c0 := c0) (c1 := c1) n c0 ⟨g0, g1, gst⟩).mono ?_
  rintro e w2 ⟨rfl, f0, f1, fst⟩
  rw [EV.out]
  clear g0 g1 gst
  go_wp2_with fail
  go_region_held3 (fun w' => w'.cell? ⟨w.heap.size, 0, none⟩ = some (.int .i64 c0) ∧ w'.cell? ⟨w.heap.size, 1, none⟩ = some (.int .i64 c1) ∧ StH w w')
    (first | exact ⟨by assumption, by assumption, by assumption⟩ | exact ⟨by assumption, by assumption, StH.drew (by assumption)⟩ | assumption | exact StH.drew (by assumption))
    (first
      | (go_at_call 35; refine (st_src (w := w) (c0 := c0) (c1 := c1) _ _ _ _ h2 (by first | assumption | exact ⟨by assumption, by assumption, by assumption⟩)).mono ?_; rintro e w1 ⟨rfl, k0, k1, k2⟩)
      | (go_at_call 36; refine (st_rsrc (w := w) (c0 := c0) (c1 := c1) _ _ _ _ h2 (by first | assumption | exact ⟨by assumption, by assumption, by assumption⟩)).mono ?_; rintro e w1 ⟨rfl, k0, k1, k2⟩)
      | (go_at_call 37; refine (st_link (w := w) (c0 := c0) (c1 := c1) _ _ _ _ h2 (by first | assumption | exact ⟨by assumption, by assumption, by assumption⟩)).mono ?_; rintro e w1 ⟨rfl, k0, k1, k2⟩)
      | (go_at_call 38; refine (st_rlink (w := w) (c0 := c0) (c1 := c1) _ _ _ _ h2 (by first | assumption | exact ⟨by assumption, by assumption, by assumption⟩)).mono ?_; rintro e w1 ⟨rfl, k0, k1, k2⟩)
      | (go_at_call 32; refine (st_lives (w := w) (c0 := c0) (c1 := c1) hs (by first | assumption | exact ⟨by assumption, by assumption, by assumption⟩)).mono ?_; rintro e w1 ⟨rfl, k0, k1, k2⟩))
  go_wp2_with fail
  go_ret
  exact ⟨rfl, StH.bel (by assumption)⟩
end Go.Proofs.YtbniijmabebhoaaDoor
