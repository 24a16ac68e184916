/- The reference's Place, at all arguments. -/
import Derived.Test.YtbniijmabebhoaaDoorRef6
namespace Go.Proofs.YtbniijmabebhoaaDoor
open Go.RowKit
set_option linter.unusedVariables false
theorem place_bad (n d f a : Int) (h : (Rg.ringB n d && Rg.nodeB n f) = false) (hd : 0 ≤ d) : Rg.place n d f a = -1 := by
  unfold Rg.place Rg.dist
  rw [if_neg]
  intro hc
  rw [Bool.and_eq_true, Bool.and_eq_true] at hc
  obtain ⟨⟨h1, h2⟩, _⟩ := hc
  rw [h1, Bool.true_and] at h
  split at h2
  · rw [Rg.step, if_neg (by rw [h, Bool.and_false]; simp)] at h2
    simp [Rg.nodeB] at h2
  · rw [h] at h2; cases h2
theorem rplace_any (n d f a : Int) (w : World) (hd : 0 ≤ d) :
    Calls Tryd.prog 43 #[.int .i64 n, .int .u8 d, .int .i64 f, .int .i64 a] w fun e w' => e = .returned (.int .i64 (Rg.place n d f a)) ∧ w = w' := by
  have HI := hide (ris_any n d w hd)
  cases r : Rg.ringB n d with
  | false =>
    have E := hide (place_bad n d f a (by rw [r]; rfl) hd)
    rw [r] at HI
    clear r
    go_enter Tryd.func43, Tryd.ntmps43
    go_wp2_with fail
    refine HI.out.mono ?_
    rintro e w' ⟨rfl, rfl⟩
    go_wp2_with fail
    go_ret
    exact ⟨ret_int E.out.symm, rfl⟩
  | true =>
    obtain ⟨h1, h2, h3⟩ := ring_out r
    cases q : Rg.nodeB n f with
    | false =>
      have E := hide (place_bad n d f a (by rw [r, q]; rfl) hd)
      rw [r] at HI
      clear r
      have hq : f < 0 ∨ (0 ≤ f ∧ n ≤ f) := by simp [Rg.nodeB] at q; omega
      clear q
      rcases hq with hq | ⟨hq, hq'⟩
      · have d1 : decide (f < 0) = true := decide_eq_true hq
        go_enter Tryd.func43, Tryd.ntmps43
        go_wp2_with fail
        refine HI.out.mono ?_
        rintro e w' ⟨rfl, rfl⟩
        go_wp2_with fail
        go_ret
        exact ⟨ret_int E.out.symm, rfl⟩
      · have d1 : decide (f < 0) = false := decide_eq_false (by omega)
        have d2 : decide (n ≤ f) = true := decide_eq_true hq'
        go_enter Tryd.func43, Tryd.ntmps43
        go_wp2_with fail
        refine HI.out.mono ?_
        rintro e w' ⟨rfl, rfl⟩
        go_wp2_with fail
        go_ret
        exact ⟨ret_int E.out.symm, rfl⟩
    | true =>
      obtain ⟨h4, h5⟩ := node_out q
      rw [r] at HI
      clear r q
      have d1 : decide (f < 0) = false := decide_eq_false (by omega)
      have d2 : decide (n ≤ f) = false := decide_eq_false (by omega)
      rcases (show d = 1 ∨ ¬ d = 1 from by omega) with rfl | hne
      · have NX := hide (rnext_any n 0 f w h1 h2 (.inl rfl) h4 h5)
        have DD := hide (rdist_any n 1 (Rg.step n 0 f 1) a w (by omega))
        go_enter Tryd.func43, Tryd.ntmps43
        go_wp2_with fail
        refine HI.out.mono ?_
        rintro e w' ⟨rfl, rfl⟩
        go_wp2_with fail
        refine NX.out.mono ?_
        rintro e w' ⟨rfl, rfl⟩
        go_wp2_with fail
        refine DD.out.mono ?_
        rintro e w' ⟨rfl, rfl⟩
        go_wp2_with fail
        go_ret
        exact ⟨rfl, rfl⟩
      · have hne' : (d == 1) = false := by simpa using hne
        have E := hide (show Rg.place n d f a = Rg.dist n d f a by unfold Rg.place; rw [if_neg hne])
        have DD := hide (rdist_any n d f a w hd)
        clear hne
        go_enter Tryd.func43, Tryd.ntmps43
        go_wp2_with fail
        refine HI.out.mono ?_
        rintro e w' ⟨rfl, rfl⟩
        go_wp2_with fail
        refine DD.out.mono ?_
        rintro e w' ⟨rfl, rfl⟩
        go_wp2_with fail
        go_ret
        exact ⟨ret_int E.out.symm, rfl⟩
end Go.Proofs.YtbniijmabebhoaaDoor
