/- Contracts of package rings: what Step, Distance, Source, Link, Ends and Place return, as whole numbers, where rings.signs holds 1 and -1. -/
import Derived.Test.YtbniijmabebhoaaDoorProg
import Derived.Test.YtbniijmabebhoaaDoorBase
import Derived.WalkLawsBesides
import Derived.Outline
import Derived.IntWalk
import Derived.BigQuiet
import Derived.Deep.QuietTactic
namespace Go.Proofs.YtbniijmabebhoaaDoor
open Go.RowKit
set_option linter.unusedVariables false
namespace Rg
def ringB (n d : Int) : Bool := decide (4 ≤ n) && decide (n ≤ 16) && decide (d ≤ 1)
def nodeB (n i : Int) : Bool := decide (0 ≤ i) && decide (i < n)
def sg (d : Int) : Int := if d = 0 then 1 else -1
def step (n d a s : Int) : Int := if ringB n d && nodeB n a then (a + sg d * s) % n else -1
end Rg
theorem ring_any (n d : Int) (w : World) (hd : 0 ≤ d) : Calls Tryd.prog 52 #[.int .i64 n, .int .u8 d] w fun e w' => e = .returned (.bool (Rg.ringB n d)) ∧ w = w' := by
  go_enter Tryd.func52, Tryd.ntmps52
  go_wp2
  all_goals (go_ret; exact ⟨ret_bool (by unfold Rg.ringB; rw [Bool.eq_iff_iff]; simp; try omega), rfl⟩)
theorem node_any (n i : Int) (w : World) : Calls Tryd.prog 53 #[.int .i64 n, .int .i64 i] w fun e w' => e = .returned (.bool (Rg.nodeB n i)) ∧ w = w' := by
  go_enter Tryd.func53, Tryd.ntmps53
  go_wp2
  all_goals (go_ret; exact ⟨ret_bool (by unfold Rg.nodeB; rw [Bool.eq_iff_iff]; simp; try omega), rfl⟩)
theorem flipw {P : Program} {f : FuncId} {args : Array Value} {w : World} {v : Value} (h : Calls P f args w fun e w' => e = .returned v ∧ w = w') : Calls P f args w fun e w' => e = .returned v ∧ w' = w :=
  h.mono fun _ _ ⟨a, b⟩ => ⟨a, b.symm⟩
theorem tmod_bd (x n : Int) (h : 0 < n) : -n < x.tmod n ∧ x.tmod n < n := by
  have h1 := Int.tmod_lt_of_pos x h
  have h2 := Int.tmod_lt_of_pos (-x) h
  rw [Int.neg_tmod] at h2
  omega
theorem tmod_sub (x n : Int) : ∃ q, x.tmod n = x - n * q := ⟨_, Int.tmod_def x n⟩
theorem round_eq (n i : Int) (h : 0 < n) : (i.tmod n + n) % n = i % n := by
  obtain ⟨q, e⟩ := tmod_sub i n
  rw [e, show i - n * q + n = i + n * (1 - q) from by rw [Int.mul_sub]; omega, Int.add_mul_emod_self_left]
theorem step_eq (n a s c : Int) : (a + c * s.tmod n) % n = (a + c * s) % n := by
  obtain ⟨q, e⟩ := tmod_sub s n
  rw [e, show a + c * (s - n * q) = a + c * s + n * (-(c * q)) from by rw [Int.mul_sub, Int.mul_neg, Int.mul_left_comm]; omega, Int.add_mul_emod_self_left]
theorem round_any (n i : Int) (w : World) (h : 4 ≤ n) (h' : n ≤ 16) : Calls Tryd.prog 54 #[.int .i64 n, .int .i64 i] w fun e w' => e = .returned (.int .i64 (i % n)) ∧ w = w' := by
  have hb := tmod_bd i n (by omega)
  have e0 := hide (round_eq n i (by omega))
  go_enter Tryd.func54, Tryd.ntmps54
  go_wp2
  go_ret
  exact ⟨ret_int e0.out, rfl⟩
theorem step_good (n d a s : Int) (w : World) (hn : 4 ≤ n) (hn' : n ≤ 16) (hd : 0 ≤ d) (hd' : d ≤ 1) (ha : 0 ≤ a) (ha' : a < n) (g0 : w.cell? ⟨0, 0, none⟩ = some (.int .i64 1)) (g1 : w.cell? ⟨0, 1, none⟩ = some (.int .i64 (-1))) :
    Calls Tryd.prog 28 #[.int .i64 n, .int .u8 d, .int .i64 a, .int .i64 s] w fun e w' => e = .returned (.int .i64 (Rg.step n d a s)) ∧ ∃ n, w' = w.drewN n := by
  have r : Rg.ringB n d = true := by simp [Rg.ringB]; omega
  have q : Rg.nodeB n a = true := by simp [Rg.nodeB]; omega
  have tb := tmod_bd s n (by omega)
  rcases (show d = 0 ∨ d = 1 from by omega) with rfl | rfl
  · go_enter Tryd.func28, Tryd.ntmps28
    go_wp2_with fail
    refine (ring_any _ _ _ (by omega)).mono ?_
    rintro e w' ⟨rfl, rfl⟩
    rw [r]
    go_wp2_with fail
    refine (node_any _ _ _).mono ?_
    rintro e w' ⟨rfl, rfl⟩
    rw [q]
    go_wp2_with fail
    have hn0 : ¬ n = 0 := by omega
    have e1 : IntKind.i64.wrap (s.tmod n) = s.tmod n := IntWalk.i64_in _ (by omega)
    have e2 : IntKind.i64.wrap (a + s.tmod n) = a + s.tmod n := IntWalk.i64_in _ (by omega)
    go_quiet ((go_at_call 54; exact Calls.quiet_of_same (flipw (round_any n _ _ hn hn'))))
    go_wp2_with fail
    go_ret
    exact ⟨ret_int (by unfold Rg.step; rw [r, q]; have := step_eq n a s 1; simpa [Rg.sg] using this), _, rfl⟩
  · go_enter Tryd.func28, Tryd.ntmps28
    go_wp2_with fail
    refine (ring_any _ _ _ (by omega)).mono ?_
    rintro e w' ⟨rfl, rfl⟩
    rw [r]
    go_wp2_with fail
    refine (node_any _ _ _).mono ?_
    rintro e w' ⟨rfl, rfl⟩
    rw [q]
    go_wp2_with fail
    have hn0 : ¬ n = 0 := by omega
    have e1 : IntKind.i64.wrap (s.tmod n) = s.tmod n := IntWalk.i64_in _ (by omega)
    have e2 : IntKind.i64.wrap (a + -s.tmod n) = a + -s.tmod n := IntWalk.i64_in _ (by omega)
    have e3 : IntKind.i64.wrap (-s.tmod n) = -s.tmod n := IntWalk.i64_in _ (by omega)
    have e4 : IntKind.i64.wrap (-1 * s.tmod n) = -s.tmod n := by rw [Int.neg_one_mul]; exact e3
    have e5 : IntKind.i64.wrap (a - s.tmod n) = a - s.tmod n := IntWalk.i64_in _ (by omega)
    go_quiet ((go_at_call 54; exact Calls.quiet_of_same (flipw (round_any n _ _ hn hn'))))
    go_wp2_with fail
    go_ret
    exact ⟨ret_int (by unfold Rg.step; rw [r, q]; have := step_eq n a s (-1); simpa [Rg.sg] using this), _, rfl⟩
theorem step_bad (n d a s : Int) (w : World) (hd : 0 ≤ d) (hb : (Rg.ringB n d && Rg.nodeB n a) = false) :
    Calls Tryd.prog 28 #[.int .i64 n, .int .u8 d, .int .i64 a, .int .i64 s] w fun e w' => e = .returned (.int .i64 (-1)) ∧ w = w' := by
  cases r : Rg.ringB n d with
  | false =>
    go_enter Tryd.func28, Tryd.ntmps28
    go_wp2_with fail
    refine (ring_any _ _ _ hd).mono ?_
    rintro e w' ⟨rfl, rfl⟩
    rw [r]
    go_wp2_with fail
    go_ret
    exact ⟨rfl, rfl⟩
  | true =>
    have q : Rg.nodeB n a = false := by simpa [r] using hb
    go_enter Tryd.func28, Tryd.ntmps28
    go_wp2_with fail
    refine (ring_any _ _ _ hd).mono ?_
    rintro e w' ⟨rfl, rfl⟩
    rw [r]
    go_wp2_with fail
    refine (node_any _ _ _).mono ?_
    rintro e w' ⟨rfl, rfl⟩
    rw [q]
    go_wp2_with fail
    go_ret
    exact ⟨rfl, rfl⟩
/-- What rings.signs holds. -/
def Signs (w : World) : Prop := w.cell? ⟨0, 0, none⟩ = some (.int .i64 1) ∧ w.cell? ⟨0, 1, none⟩ = some (.int .i64 (-1))
theorem ring_out {n d : Int} (h : Rg.ringB n d = true) : 4 ≤ n ∧ n ≤ 16 ∧ d ≤ 1 := by simp [Rg.ringB] at h; omega
theorem node_out {n i : Int} (h : Rg.nodeB n i = true) : 0 ≤ i ∧ i < n := by simpa [Rg.nodeB] using h
theorem step_any (n d a s : Int) (w : World) (hd : 0 ≤ d) (g : Signs w) :
    Calls Tryd.prog 28 #[.int .i64 n, .int .u8 d, .int .i64 a, .int .i64 s] w fun e w' => e = .returned (.int .i64 (Rg.step n d a s)) ∧ ∃ n, w' = w.drewN n := by
  cases h : Rg.ringB n d && Rg.nodeB n a with
  | false => exact (step_bad n d a s w hd h).mono fun e w' ⟨he, hw⟩ => ⟨by rw [he, Rg.step, if_neg (by rw [h]; simp)], 0, by rw [← hw]; rfl⟩
  | true =>
    rw [Bool.and_eq_true] at h
    obtain ⟨h1, h2, h3⟩ := ring_out h.1
    obtain ⟨h4, h5⟩ := node_out h.2
    exact step_good n d a s w h1 h2 hd h3 h4 h5 g.1 g.2
namespace Rg
def dist (n d a b : Int) : Int := if ringB n d && nodeB n a && nodeB n b then (sg d * (b - a)) % n else -1
def hopB (h : Int) : Bool := h == 1 || h == 2
def src (n d a h : Int) : Int := if hopB h then step n d a (-h) else -1
def link (n d a h : Int) : Int := if ringB n d && nodeB n a && hopB h then 4 * a + 2 * d + h - 1 else -1
def place (n d f a : Int) : Int := dist n d (if d = 1 then step n 0 f 1 else f) a
end Rg
theorem dist_good (n d a b : Int) (w : World) (hn : 4 ≤ n) (hn' : n ≤ 16) (hd : 0 ≤ d) (hd' : d ≤ 1) (ha : 0 ≤ a) (ha' : a < n) (hb : 0 ≤ b) (hb' : b < n) (g : Signs w) :
    Calls Tryd.prog 30 #[.int .i64 n, .int .u8 d, .int .i64 a, .int .i64 b] w fun e w' => e = .returned (.int .i64 (Rg.dist n d a b)) ∧ w = w' := by
  obtain ⟨g0, g1⟩ := g
  have r : Rg.ringB n d = true := by simp [Rg.ringB]; omega
  have q : Rg.nodeB n a = true := by simp [Rg.nodeB]; omega
  have q' : Rg.nodeB n b = true := by simp [Rg.nodeB]; omega
  have R := hide (ring_any n d w hd)
  have N1 := hide (node_any n a w)
  have N2 := hide (node_any n b w)
  rcases (show d = 0 ∨ d = 1 from by omega) with rfl | rfl
  · go_enter Tryd.func30, Tryd.ntmps30
    go_wp2_with fail
    refine R.out.mono ?_
    rintro e w' ⟨rfl, rfl⟩
    rw [r]
    go_wp2_with fail
    refine N1.out.mono ?_
    rintro e w' ⟨rfl, rfl⟩
    rw [q]
    go_wp2_with fail
    refine N2.out.mono ?_
    rintro e w' ⟨rfl, rfl⟩
    rw [q']
    go_wp2_with fail
    refine (round_any n _ _ hn hn').mono ?_
    rintro e w' ⟨rfl, rfl⟩
    go_wp2_with fail
    go_ret
    exact ⟨ret_int (by unfold Rg.dist; rw [r, q, q']; simp [Rg.sg]), rfl⟩
  · go_enter Tryd.func30, Tryd.ntmps30
    go_wp2_with fail
    refine R.out.mono ?_
    rintro e w' ⟨rfl, rfl⟩
    rw [r]
    go_wp2_with fail
    refine N1.out.mono ?_
    rintro e w' ⟨rfl, rfl⟩
    rw [q]
    go_wp2_with fail
    refine N2.out.mono ?_
    rintro e w' ⟨rfl, rfl⟩
    rw [q']
    go_wp2_with fail
    refine (round_any n _ _ hn hn').mono ?_
    rintro e w' ⟨rfl, rfl⟩
    go_wp2_with fail
    go_ret
    exact ⟨ret_int (by unfold Rg.dist; rw [r, q, q']; simp [Rg.sg]), rfl⟩
theorem dist_any (n d a b : Int) (w : World) (hd : 0 ≤ d) (g : Signs w) :
    Calls Tryd.prog 30 #[.int .i64 n, .int .u8 d, .int .i64 a, .int .i64 b] w fun e w' => e = .returned (.int .i64 (Rg.dist n d a b)) ∧ w = w' := by
  have R := hide (ring_any n d w hd)
  have N1 := hide (node_any n a w)
  have N2 := hide (node_any n b w)
  cases r : Rg.ringB n d with
  | false =>
    have D : Rg.dist n d a b = -1 := by unfold Rg.dist; rw [r]; rfl
    have D := hide D
    go_enter Tryd.func30, Tryd.ntmps30
    go_wp2_with fail
    refine R.out.mono ?_
    rintro e w' ⟨rfl, rfl⟩
    rw [r]
    go_wp2_with fail
    go_ret
    exact ⟨ret_int D.out.symm, rfl⟩
  | true =>
    cases q : Rg.nodeB n a with
    | false =>
      have D : Rg.dist n d a b = -1 := by unfold Rg.dist; rw [r, q]; rfl
      have D := hide D
      go_enter Tryd.func30, Tryd.ntmps30
      go_wp2_with fail
      refine R.out.mono ?_
      rintro e w' ⟨rfl, rfl⟩
      rw [r]
      go_wp2_with fail
      refine N1.out.mono ?_
      rintro e w' ⟨rfl, rfl⟩
      rw [q]
      go_wp2_with fail
      go_ret
      exact ⟨ret_int D.out.symm, rfl⟩
    | true =>
      cases q' : Rg.nodeB n b with
      | false =>
        have D : Rg.dist n d a b = -1 := by unfold Rg.dist; rw [r, q, q']; rfl
        have D := hide D
        go_enter Tryd.func30, Tryd.ntmps30
        go_wp2_with fail
        refine R.out.mono ?_
        rintro e w' ⟨rfl, rfl⟩
        rw [r]
        go_wp2_with fail
        refine N1.out.mono ?_
        rintro e w' ⟨rfl, rfl⟩
        rw [q]
        go_wp2_with fail
        refine N2.out.mono ?_
        rintro e w' ⟨rfl, rfl⟩
        rw [q']
        go_wp2_with fail
        go_ret
        exact ⟨ret_int D.out.symm, rfl⟩
      | true =>
        obtain ⟨h1, h2, h3⟩ := ring_out r
        obtain ⟨h4, h5⟩ := node_out q
        obtain ⟨h6, h7⟩ := node_out q'
        exact dist_good n d a b w h1 h2 hd h3 h4 h5 h6 h7 g
theorem hops_any (h : Int) (w : World) : Calls Tryd.prog 58 #[.int .i64 h] w fun e w' => e = .returned (.bool (Rg.hopB h)) ∧ w = w' := by
  rcases (show h = 1 ∨ h = 2 ∨ (¬ h = 1 ∧ ¬ h = 2) from by omega) with rfl | rfl | ⟨h1, h2⟩
  · go_enter Tryd.func58, Tryd.ntmps58
    go_wp2
    go_ret
    exact ⟨ret_bool rfl, rfl⟩
  · go_enter Tryd.func58, Tryd.ntmps58
    go_wp2
    go_ret
    exact ⟨ret_bool rfl, rfl⟩
  · have k1 : (h == 1) = false := by simpa using h1
    have k2 : (h == 2) = false := by simpa using h2
    go_enter Tryd.func58, Tryd.ntmps58
    go_wp2
    go_ret
    exact ⟨ret_bool (by simp [Rg.hopB, k1, k2]), rfl⟩
theorem src_any (n d a h : Int) (w : World) (hd : 0 ≤ d) (g : Signs w) :
    Calls Tryd.prog 35 #[.int .i64 n, .int .u8 d, .int .i64 a, .int .i64 h] w fun e w' => e = .returned (.int .i64 (Rg.src n d a h)) ∧ ∃ n, w' = w.drewN n := by
  have H := hide (hops_any h w)
  cases q : Rg.hopB h with
  | false =>
    have D : Rg.src n d a h = -1 := by unfold Rg.src; rw [q]; rfl
    have D := hide D
    go_enter Tryd.func35, Tryd.ntmps35
    go_wp2_with fail
    refine H.out.mono ?_
    rintro e w' ⟨rfl, rfl⟩
    rw [q]
    go_wp2_with fail
    go_ret
    exact ⟨ret_int D.out.symm, 0, rfl⟩
  | true =>
    have D : Rg.src n d a h = Rg.step n d a (-h) := by unfold Rg.src; rw [q]; rfl
    have D := hide D
    have S := hide (step_any n d a (-h) w hd g)
    have hh : 1 ≤ h ∧ h ≤ 2 := by simp [Rg.hopB] at q; omega
    go_enter Tryd.func35, Tryd.ntmps35
    go_wp2_with fail
    refine H.out.mono ?_
    rintro e w' ⟨rfl, rfl⟩
    rw [q]
    go_wp2_with fail
    refine S.out.mono ?_
    rintro e w' ⟨rfl, m, rfl⟩
    go_wp2_with fail
    go_ret
    exact ⟨ret_int D.out.symm, m, rfl⟩
theorem link_any (n d a h : Int) (w : World) (hd : 0 ≤ d) :
    Calls Tryd.prog 37 #[.int .i64 n, .int .u8 d, .int .i64 a, .int .i64 h] w fun e w' => e = .returned (.int .i64 (Rg.link n d a h)) ∧ w = w' := by
  have R := hide (ring_any n d w hd)
  have N1 := hide (node_any n a w)
  have H := hide (hops_any h w)
  cases r : Rg.ringB n d with
  | false =>
    have D : Rg.link n d a h = -1 := by unfold Rg.link; rw [r]; rfl
    have D := hide D
    go_enter Tryd.func37, Tryd.ntmps37
    go_wp2_with fail
    refine R.out.mono ?_
    rintro e w' ⟨rfl, rfl⟩
    rw [r]
    go_wp2_with fail
    go_ret
    exact ⟨ret_int D.out.symm, rfl⟩
  | true =>
    cases q : Rg.nodeB n a with
    | false =>
      have D : Rg.link n d a h = -1 := by unfold Rg.link; rw [r, q]; rfl
      have D := hide D
      go_enter Tryd.func37, Tryd.ntmps37
      go_wp2_with fail
      refine R.out.mono ?_
      rintro e w' ⟨rfl, rfl⟩
      rw [r]
      go_wp2_with fail
      refine N1.out.mono ?_
      rintro e w' ⟨rfl, rfl⟩
      rw [q]
      go_wp2_with fail
      go_ret
      exact ⟨ret_int D.out.symm, rfl⟩
    | true =>
      cases q' : Rg.hopB h with
      | false =>
        have D : Rg.link n d a h = -1 := by unfold Rg.link; rw [r, q, q']; rfl
        have D := hide D
        go_enter Tryd.func37, Tryd.ntmps37
        go_wp2_with fail
        refine R.out.mono ?_
        rintro e w' ⟨rfl, rfl⟩
        rw [r]
        go_wp2_with fail
        refine N1.out.mono ?_
        rintro e w' ⟨rfl, rfl⟩
        rw [q]
        go_wp2_with fail
        refine H.out.mono ?_
        rintro e w' ⟨rfl, rfl⟩
        rw [q']
        go_wp2_with fail
        go_ret
        exact ⟨ret_int D.out.symm, rfl⟩
      | true =>
        obtain ⟨h1, h2, h3⟩ := ring_out r
        obtain ⟨h4, h5⟩ := node_out q
        have hh : 1 ≤ h ∧ h ≤ 2 := by simp [Rg.hopB] at q'; omega
        have D : Rg.link n d a h = 4 * a + 2 * d + h - 1 := by unfold Rg.link; rw [r, q, q']; rfl
        have D := hide D
        go_enter Tryd.func37, Tryd.ntmps37
        go_wp2_with fail
        refine R.out.mono ?_
        rintro e w' ⟨rfl, rfl⟩
        rw [r]
        go_wp2_with fail
        refine N1.out.mono ?_
        rintro e w' ⟨rfl, rfl⟩
        rw [q]
        go_wp2_with fail
        refine H.out.mono ?_
        rintro e w' ⟨rfl, rfl⟩
        rw [q']
        go_wp2_with fail
        go_ret
        exact ⟨ret_int D.out.symm, rfl⟩
theorem place_any (n d f a : Int) (w : World) (hd : 0 ≤ d) (g : Signs w) :
    Calls Tryd.prog 42 #[.int .i64 n, .int .u8 d, .int .i64 f, .int .i64 a] w fun e w' => e = .returned (.int .i64 (Rg.place n d f a)) ∧ ∃ n, w' = w.drewN n := by
  rcases (show d = 1 ∨ ¬ d = 1 from by omega) with rfl | h1
  · go_enter Tryd.func42, Tryd.ntmps42
    go_wp2_with fail
    refine (step_any n 0 f 1 w (by omega) g).mono ?_
    rintro e w' ⟨rfl, m, rfl⟩
    go_wp2_with fail
    refine (dist_any n 1 _ a _ (by omega) (show Signs (w.drewN m) from g)).mono ?_
    rintro e w' ⟨rfl, rfl⟩
    go_wp2_with fail
    go_ret
    exact ⟨rfl, m, rfl⟩
  · have h1' : (d == 1) = false := by simpa using h1
    have D : Rg.place n d f a = Rg.dist n d f a := by unfold Rg.place; rw [if_neg h1]
    have D := hide D
    go_enter Tryd.func42, Tryd.ntmps42
    go_wp2_with fail
    refine (dist_any n d f a _ hd g).mono ?_
    rintro e w' ⟨rfl, rfl⟩
    go_wp2_with fail
    go_ret
    exact ⟨ret_int D.out.symm, 0, rfl⟩
namespace Rg
def endsB (n k : Int) : Bool := decide (4 ≤ n) && decide (n ≤ 16) && decide (0 ≤ k) && decide (k < 4 * n)
end Rg
theorem results_tmp4' {fn : Func} {t u v x : Tmp} (h : fn.results = #[.tmp t, .tmp u, .tmp v, .tmp x]) (tmps : Array Value) (P : Program) (w : World) :
    (results fn tmps).run P w = .ok (.tuple #[tmps.getD t undef, tmps.getD u undef, tmps.getD v undef, tmps.getD x undef]) w := by simp [results, h]
theorem ends_bad (n k : Int) (w : World) (hb : Rg.endsB n k = false) (hk : k ≤ 9223372036854775807) (hk' : -9223372036854775808 ≤ k) :
    Calls Tryd.prog 33 #[.int .i64 n, .int .i64 k] w fun e w' => e = .returned (.tuple #[.int .i64 (-1), .int .i64 (-1), .int .u8 0, .int .i64 0]) ∧ w = w' := by
  have R := hide (ring_any n 0 w (by omega))
  cases r : Rg.ringB n 0 with
  | false =>
    go_enter Tryd.func33, Tryd.ntmps33
    go_wp2_with fail
    refine R.out.mono ?_
    rintro e w' ⟨rfl, rfl⟩
    rw [r]
    go_wp2_with fail
    refine bodyPost_ret (results_tmp4' rfl _ _ _) rfl ?_
    exact ⟨rfl, rfl⟩
  | true =>
    obtain ⟨h1, h2, _⟩ := ring_out r
    have hb' : k < 0 ∨ (0 ≤ k ∧ 4 * n ≤ k) := by simp [Rg.endsB] at hb; omega
    clear hb
    rcases hb' with hb | ⟨hb, hb'⟩
    all_goals
      go_enter Tryd.func33, Tryd.ntmps33
      go_wp2_with fail
      refine R.out.mono ?_
      rintro e w' ⟨rfl, rfl⟩
      rw [r]
      go_wp2_with fail
      refine bodyPost_ret (results_tmp4' rfl _ _ _) rfl ?_
      exact ⟨rfl, rfl⟩
theorem ends_good (n k : Int) (w : World) (hb : Rg.endsB n k = true) (g : Signs w) :
    Calls Tryd.prog 33 #[.int .i64 n, .int .i64 k] w fun e w' => e = .returned (.tuple #[.int .i64 (k / 4), .int .i64 (Rg.step n (k % 4 / 2) (k / 4) (k % 2 + 1)), .int .u8 (k % 4 / 2), .int .i64 (k % 2 + 1)]) ∧ ∃ n, w' = w.drewN n := by
  have R := hide (ring_any n 0 w (by omega))
  have hb' : 4 ≤ n ∧ n ≤ 16 ∧ 0 ≤ k ∧ k < 4 * n := by simp [Rg.endsB] at hb; omega
  obtain ⟨h1, h2, h3, h4⟩ := hb'
  have r : Rg.ringB n 0 = true := by simp [Rg.ringB]; omega
  have S := hide (step_any n (k % 4 / 2) (k / 4) (k % 2 + 1) w (by omega) g)
  go_enter Tryd.func33, Tryd.ntmps33
  go_wp2_with fail
  refine R.out.mono ?_
  rintro e w' ⟨rfl, rfl⟩
  rw [r]
  go_wp2_with fail
  refine S.out.mono ?_
  rintro e w' ⟨rfl, m, rfl⟩
  go_wp2_with fail
  refine bodyPost_ret (results_tmp4' rfl _ _ _) rfl ?_
  exact ⟨rfl, m, rfl⟩
end Go.Proofs.YtbniijmabebhoaaDoor
