/- The walk of RingsRound: of whatever ring, nodes and steps, the ways round the ring agree; nothing that was there has turned. -/
import Derived.Test.YtbniijmabebhoaaDoorRLives
namespace Go.Proofs.YtbniijmabebhoaaDoor
open Go.RowKit
set_option linter.unusedVariables false
theorem nodes_any (b : Int) (w : World) (h : 0 ≤ b) (h' : b ≤ 255) : Calls Tryd.prog 46 #[.int .u8 b] w fun e w' => e = .returned (.int .i64 (4 + b % 13)) ∧ w = w' := by
  have e : b.tmod 13 = b % 13 := Int.tmod_eq_emod_of_nonneg h
  go_enter Tryd.func46, Tryd.ntmps46
  go_wp2_with fail
  go_ret
  exact ⟨rfl, rfl⟩
theorem fwd (n a b : Int) (ha : 0 ≤ a) (ha' : a < n) (hb : 0 ≤ b) (hb' : b < n) : (b - a) % n = if a ≤ b then b - a else b - a + n := by
  split
  · exact Int.emod_eq_of_lt (by omega) (by omega)
  · rw [← Int.add_emod_right, Int.emod_eq_of_lt (by omega) (by omega)]
structure RoundLaw (n a b s : Int) : Prop where
  to0 : 0 ≤ Rg.step n 0 a s
  to1 : Rg.step n 0 a s < n
  back : Rg.step n 1 (Rg.step n 0 a s) s = a
  neg : Rg.step n 1 a (-s) = Rg.step n 0 a s
  more : Rg.step n 0 a (s + n) = Rg.step n 0 a s
  x0 : 0 ≤ Rg.dist n 0 a b
  x1 : Rg.dist n 0 a b < n
  y0 : 0 ≤ Rg.dist n 1 a b
  y1 : Rg.dist n 1 a b < n
  eqx : (a == b) = (Rg.dist n 0 a b == 0)
  eqy : (a == b) = (Rg.dist n 1 a b == 0)
  sum : ¬ a = b → Rg.dist n 0 a b + Rg.dist n 1 a b = n
  atx : Rg.step n 0 a (Rg.dist n 0 a b) = b
  aty : Rg.step n 1 a (Rg.dist n 1 a b) = b
theorem round_law (n a b s : Int) (hn : 4 ≤ n) (hn' : n ≤ 16) (ha : 0 ≤ a) (ha' : a < n) (hb : 0 ≤ b) (hb' : b < n) : RoundLaw n a b s := by
  have r0 : Rg.ringB n 0 = true := by simp [Rg.ringB]; omega
  have r1 : Rg.ringB n 1 = true := by simp [Rg.ringB]; omega
  have qa : ∀ x, 0 ≤ x → x < n → Rg.nodeB n x = true := fun x h h' => by simp [Rg.nodeB]; omega
  have s0 : ∀ x t, 0 ≤ x → x < n → Rg.step n 0 x t = (x + t) % n := fun x t h h' => by rw [Rg.step, r0, qa x h h']; simp [Rg.sg]
  have s1 : ∀ x t, 0 ≤ x → x < n → Rg.step n 1 x t = (x - t) % n := fun x t h h' => by rw [Rg.step, r1, qa x h h']; simp [Rg.sg]; rfl
  have d0 : Rg.dist n 0 a b = (b - a) % n := by rw [Rg.dist, r0, qa a ha ha', qa b hb hb']; simp [Rg.sg]
  have d1 : Rg.dist n 1 a b = (a - b) % n := by rw [Rg.dist, r1, qa a ha ha', qa b hb hb']; simp [Rg.sg]; rw [Int.neg_sub]
  have t0 : 0 ≤ (a + s) % n := Int.emod_nonneg _ (by omega)
  have t1 : (a + s) % n < n := Int.emod_lt_of_pos _ (by omega)
  have f0 := fwd n a b ha ha' hb hb'
  have f1 := fwd n b a hb hb' ha ha'
  constructor
  · rw [s0 a s ha ha']; exact t0
  · rw [s0 a s ha ha']; exact t1
  · rw [s0 a s ha ha', s1 _ _ t0 t1, Int.sub_eq_add_neg, Int.emod_add_emod, show a + s + -s = a from by omega, Int.emod_eq_of_lt ha ha']
  · rw [s0 a s ha ha', s1 _ _ ha ha', show a - -s = a + s from by omega]
  · rw [s0 a s ha ha', s0 _ _ ha ha', ← Int.add_assoc, Int.add_emod_right]
  · rw [d0, f0]; split <;> omega
  · rw [d0, f0]; split <;> omega
  · rw [d1, f1]; split <;> omega
  · rw [d1, f1]; split <;> omega
  · rw [d0, f0, Bool.eq_iff_iff]; simp; split <;> omega
  · rw [d1, f1, Bool.eq_iff_iff]; simp; split <;> omega
  · rw [d0, d1, f0, f1]; intro h; split <;> split <;> omega
  · rw [d0, s0 _ _ ha ha', Int.add_emod_emod, show a + (b - a) = b from by omega, Int.emod_eq_of_lt hb hb']
  · rw [d1, s1 _ _ ha ha', Int.sub_emod_emod, show a - (a - b) = b from by omega, Int.emod_eq_of_lt hb hb']
set_option maxRecDepth 100000 in
set_option maxHeartbeats 4000000 in
theorem round_walk (nb c0 c1 s : Int) (w : World) (h0 : 0 ≤ nb) (h1 : nb ≤ 255) (h2 : 0 ≤ c0) (h3 : c0 ≤ 255) (h4 : 0 ≤ c1) (h5 : c1 ≤ 255) (h6 : -9223372036854775808 ≤ s) (h7 : s ≤ 9223372036854775807) (hs : 0 < w.heap.size) (g : Signs w) :
    Calls Tryd.prog 8 #[.int .u8 nb, .agg #[.int .u8 c0, .int .u8 c1], .int .i64 s] w fun e w' => e = .returned (.bool true) ∧ Below w.heap.size w w' := by
  have HN := hide (fun w => nodes_any nb w h0 h1)
  have bn : 4 ≤ 4 + nb % 13 ∧ 4 + nb % 13 ≤ 16 := by omega
  generalize 4 + nb % 13 = n at HN bn
  obtain ⟨bn, bn'⟩ := bn
  have ba : 0 ≤ c0.tmod n ∧ c0.tmod n < n := by
    rw [Int.tmod_eq_emod_of_nonneg h2]; exact ⟨Int.emod_nonneg _ (by omega), Int.emod_lt_of_pos _ (by omega)⟩
  have bb : 0 ≤ c1.tmod n ∧ c1.tmod n < n := by
    rw [Int.tmod_eq_emod_of_nonneg h4]; exact ⟨Int.emod_nonneg _ (by omega), Int.emod_lt_of_pos _ (by omega)⟩
  obtain ⟨ba, ba'⟩ := ba
  obtain ⟨bb, bb'⟩ := bb
  have bs := tmod_bd s 1000000 (by omega)
  have n0 : ¬ n = 0 := by omega
  have HL := hide (round_law n (c0.tmod n) (c1.tmod n) (s.tmod 1000000) bn bn' ba ba' bb bb')
  obtain ⟨a, ea⟩ : ∃ a, c0.tmod n = a := ⟨_, rfl⟩
  obtain ⟨b, eb⟩ : ∃ b, c1.tmod n = b := ⟨_, rfl⟩
  obtain ⟨t, et⟩ : ∃ t, s.tmod 1000000 = t := ⟨_, rfl⟩
  rw [ea, eb, et] at HL
  rw [ea] at ba ba'
  rw [eb] at bb bb'
  rw [et] at bs
  obtain ⟨bs, bs'⟩ := bs
  have S0 := hide (fun (W : World) (g : Signs W) => step_any n 0 a t W (by omega) g)
  have S1 := hide (fun (W : World) (g : Signs W) => step_any n 1 (Rg.step n 0 a t) t W (by omega) g)
  have S2 := hide (fun (W : World) (g : Signs W) => step_any n 1 a (-t) W (by omega) g)
  have S3 := hide (fun (W : World) (g : Signs W) => step_any n 0 a (t + n) W (by omega) g)
  have D0 := hide (fun (W : World) (g : Signs W) => dist_any n 0 a b W (by omega) g)
  have D1 := hide (fun (W : World) (g : Signs W) => dist_any n 1 a b W (by omega) g)
  have T0 := hide (fun (W : World) (g : Signs W) => step_any n 0 a (Rg.dist n 0 a b) W (by omega) g)
  have T1 := hide (fun (W : World) (g : Signs W) => step_any n 1 a (Rg.dist n 1 a b) W (by omega) g)
  rw [HL.out.back] at S1
  rw [HL.out.neg] at S2
  rw [HL.out.more] at S3
  rw [HL.out.atx] at T0
  rw [HL.out.aty] at T1
  obtain ⟨to0, to1, _, _, _, x0, x1, y0, y1, eqx, eqy, sum, _, _⟩ := HL.out
  clear HL
  generalize Rg.step n 0 a t = to at *
  generalize Rg.dist n 0 a b = x at *
  generalize Rg.dist n 1 a b = y at *
  have bW := hide (fun o => Below.alloc (Below.refl w.heap.size w) (Nat.le_refl _) o)
  have gS := hide (fun o => show Signs (w.alloc o) from ⟨(World.cell?_alloc_lt w o ⟨0, 0, none⟩ hs).trans g.1, (World.cell?_alloc_lt w o ⟨0, 1, none⟩ hs).trans g.2⟩)
  clear g
  have eqx := hide eqx
  have eqy := hide eqy
  have sum := hide sum
  go_enter Tryd.func8, Tryd.ntmps8
  go_wp2_with fail
  refine (HN.out _).mono ?_
  rintro e w' ⟨rfl, rfl⟩
  clear HN
  go_wp2_with fail
  refine (S0.out _ (by exact gS.out _)).mono ?_
  rintro e w1 ⟨rfl, m1, rfl⟩
  go_wp2_with fail
  refine (S1.out _ (by exact gS.out _)).mono ?_
  rintro e w1 ⟨rfl, m2, rfl⟩
  go_wp2_with fail
  refine (S2.out _ (by exact gS.out _)).mono ?_
  rintro e w1 ⟨rfl, m3, rfl⟩
  go_wp2_with fail
  refine (S3.out _ (by exact gS.out _)).mono ?_
  rintro e w1 ⟨rfl, m4, rfl⟩
  go_wp2_with fail
  refine (D0.out _ (by exact gS.out _)).mono ?_
  rintro e w1 ⟨rfl, rfl⟩
  go_wp2_with fail
  refine (D1.out _ (by exact gS.out _)).mono ?_
  rintro e w1 ⟨rfl, rfl⟩
  clear S0 S1 S2 S3 D0 D1
  by_cases hab : a = b
  · subst hab
    have hx : x = 0 := by have := eqx.out; simp at this; exact this
    have hy : y = 0 := by have := eqy.out; simp at this; exact this
    subst hx
    subst hy
    clear eqx eqy sum
    go_wp2_with fail
    refine (T0.out _ (by exact gS.out _)).mono ?_
    rintro e w1 ⟨rfl, m5, rfl⟩
    go_wp2_with fail
    refine (T1.out _ (by exact gS.out _)).mono ?_
    rintro e w1 ⟨rfl, m6, rfl⟩
    go_wp2_with fail
    refine (rlives_any _ (by exact gS.out _)).mono ?_
    rintro e w1 ⟨rfl, hb⟩
    have HB := hide hb
    clear hb
    go_wp2_with fail
    go_ret
    exact ⟨rfl, ((bW.out _).trans ((below_drewN (Below.refl _ _) _).trans (HB.out.mono (bW.out _).size)))⟩
  · have hx : ¬ x = 0 := by have := eqx.out; intro h; rw [h] at this; simp at this; exact hab this
    have hy : ¬ y = 0 := by have := eqy.out; intro h; rw [h] at this; simp at this; exact hab this
    have hs := sum.out hab
    have hab' : (a == b) = false := by simpa using hab
    have hx' : (x == 0) = false := by simpa using hx
    have hy' : (y == 0) = false := by simpa using hy
    clear eqx eqy sum
    go_wp2_with fail
    refine (T0.out _ (by exact gS.out _)).mono ?_
    rintro e w1 ⟨rfl, m5, rfl⟩
    go_wp2_with fail
    refine (T1.out _ (by exact gS.out _)).mono ?_
    rintro e w1 ⟨rfl, m6, rfl⟩
    go_wp2_with fail
    refine (rlives_any _ (by exact gS.out _)).mono ?_
    rintro e w1 ⟨rfl, hb⟩
    have HB := hide hb
    clear hb
    go_wp2_with fail
    go_ret
    exact ⟨rfl, ((bW.out _).trans ((below_drewN (Below.refl _ _) _).trans (HB.out.mono (bW.out _).size)))⟩
end Go.Proofs.YtbniijmabebhoaaDoor
