/- The walk of SumsOf: Put and Of answer as the reference does of whatever three parts, what Put hands back shares nothing; nothing that was there has turned. -/
import Derived.Test.YtlbnikmaafccnaaSumsDone
namespace Go.Proofs.Ytlbnikmaafccnaa
open Go.RowKit Sm Bk
set_option linter.unusedVariables false
theorem parts_three {w : World} {g m1 m2 m3 c1 c2 c3 : Nat} {A1 A2 A3 : Option Addr} {xs ys zs : List Nat} (h1 : xs.length = m1) (h2 : ys.length = m2) (h3 : zs.length = m3) (l1 : m1 ≤ maxLen) (l2 : m2 ≤ maxLen) (l3 : m3 ≤ maxLen)
    (k1 : w.cell? ⟨g, 0, none⟩ = some (.slice A1 m1 c1)) (k2 : w.cell? ⟨g, 1, none⟩ = some (.slice A2 m2 c2)) (k3 : w.cell? ⟨g, 2, none⟩ = some (.slice A3 m3 c3))
    (s1 : Sl w w.heap.size A1 (xs.map bv)) (s2 : Sl w w.heap.size A2 (ys.map bv)) (s3 : Sl w w.heap.size A3 (zs.map bv)) (b1 : By xs) (b2 : By ys) (b3 : By zs) : Parts w (some ⟨g, 0, none⟩) [xs, ys, zs] := by
  have e : ∀ j, (⟨g, 0, none⟩ : Addr).add j = ⟨g, j, none⟩ := fun j => by unfold Addr.add; split <;> simp_all
  subst h1
  subst h2
  subst h3
  intro i us hx
  match i, hx with
  | 0, hx =>
    simp at hx
    subst hx
    exact ⟨_, A1, c1, rfl, by rw [e]; exact k1, by rw [e]; exact lt_of_cell k1, s1, b1, l1⟩
  | 1, hx =>
    simp at hx
    subst hx
    exact ⟨_, A2, c2, rfl, by rw [e]; exact k2, by rw [e]; exact lt_of_cell k2, s2, b2, l2⟩
  | 2, hx =>
    simp at hx
    subst hx
    exact ⟨_, A3, c3, rfl, by rw [e]; exact k3, by rw [e]; exact lt_of_cell k3, s3, b3, l3⟩
  | i + 3, hx => simp at hx
theorem parts_lit {W : World} {g n1 n2 n3 cap c2 c3 : Nat} {B C : Option Addr} {xs ys zs : List Nat} (h1 : xs.length = n1) (h2 : ys.length = n2) (h3 : zs.length = n3) (l1 : n1 ≤ 300) (l2 : n2 ≤ 300) (l3 : n3 ≤ 300) (hT : Twin W g xs) (s2 : Sl W W.heap.size B (ys.map bv)) (s3 : Sl W W.heap.size C (zs.map bv)) (b1 : By xs) (b2 : By ys) (b3 : By zs) :
    Parts (W.alloc (.cells #[.slice (some ⟨g, 0, none⟩) n1 cap, .slice B n2 c2, .slice C n3 c3] 63)) (some ⟨W.heap.size, 0, none⟩) [xs, ys, zs] :=
  parts_three h1 h2 h3 (by unfold maxLen; omega) (by unfold maxLen; omega) (by unfold maxLen; omega) (cell_new' W _ _ _ 0 _ (by simp)) (cell_new' W _ _ _ 1 _ (by simp)) (cell_new' W _ _ _ 2 _ (by simp)) ((hT.sl.alloc (Nat.le_refl _) _).more (by simp)) ((s2.alloc (Nat.le_refl _) _).more (by simp)) ((s3.alloc (Nat.le_refl _) _).more (by simp)) b1 b2 b3
/-- Rows whose blocks lie in ranges of their own. -/
theorem sep_of {B : Nat} {v : Value} {rows : List Rw} (lo hi : Nat → Nat) (hR : ∀ (i : Nat) (r : Rw) (g : Nat), rows[i]? = some r → r.A = some ⟨g, 0, none⟩ → lo i ≤ g ∧ g < hi i ∧ g ≠ B ∧ v.ownBlock ≠ some g)
    (hH : ∀ i j, i < j → j < rows.length → hi i ≤ lo j) : Sepx B v rows := by
  refine ⟨fun i r g hr _ hA => (hR i r g hr hA).2.2, fun i j r s g hr hs _ _ e e' => ?_⟩
  have h1 := hR i r g hr e
  have h2 := hR j s g hs e'
  have l1 := (List.getElem?_eq_some_iff.1 hr).1
  have l2 := (List.getElem?_eq_some_iff.1 hs).1
  rcases Nat.lt_trichotomy i j with h | h | h
  · have := hH i j h l2; omega
  · exact h
  · have := hH j i h l1; omega
set_option maxRecDepth 100000 in
set_option maxHeartbeats 8000000 in
theorem sof_walk (A B C : Option Addr) (n1 n2 n3 c1 c2 c3 : Nat) (xs ys zs : List Nat) (w : World) (h1 : xs.length = n1) (h2 : ys.length = n2) (h3 : zs.length = n3) (l1 : n1 ≤ 300) (l2 : n2 ≤ 300) (l3 : n3 ≤ 300) (b1 : By xs) (b2 : By ys) (b3 : By zs)
    (s1 : Sl w w.heap.size A (xs.map bv)) (s2 : Sl w w.heap.size B (ys.map bv)) (s3 : Sl w w.heap.size C (zs.map bv)) :
    Calls Try.prog 9 #[.slice A n1 c1, .slice B n2 c2, .slice C n3 c3] w fun e w' => e = .returned (.bool true) ∧ Below w.heap.size w w' := by
  obtain ⟨i0, hi, hz0, hz1, hz2⟩ := info_parts info5
  have hd1 : decide ((300 : Int) < n1) = false := decide_eq_false (by omega)
  have hd2 : decide ((300 : Int) < n2) = false := decide_eq_false (by omega)
  have hd3 : decide ((300 : Int) < n3) = false := decide_eq_false (by omega)
  have H1 := hide h1
  have H2 := hide h2
  have H3 := hide h3
  have BY := hide (And.intro b1 (And.intro b2 b3))
  have S1 := hide s1
  have S2 := hide s2
  have S3 := hide s3
  clear h1 h2 h3 b1 b2 b3 s1 s2 s3
  go_enter Try.func9, Try.ntmps9
  go_wp2_with (at_builtin; first
    | (refine wpList_append_sl _ rfl _ _ 63 rfl w.heap.size 5 i0 (.int .u8 0) 1 1 Try.underlying63 hi hz0 hz1 hz2 rfl (by decide) (.slice none 0 0) 0 [] rfl (World.ownsRow_nil _ _ _ _) _ A n1 c1 (xs.map bv) rfl (by rw [List.length_map, H1.out, Nat.mul_one]) S1.out (one_bv _) (by unfold maxLen; omega) (by omega) (Nat.le_refl _) ?_; intro v1 w1 hown1 hg1 hat1; have HB1 := hide ((Below.refl w.heap.size w).grown hg1 (Nat.le_refl _) (by simp [Value.ownBlock])); have HO1 := hide hown1; have hz1' := HB1.out.size; clear hown1 hg1 hat1)
    | (refine wpList_append_sl _ rfl _ _ 63 rfl w.heap.size 5 i0 (.int .u8 0) 1 1 Try.underlying63 hi hz0 hz1 hz2 rfl (by decide) _ (0 + n1) ([] ++ xs.map bv) rfl HO1.out _ B n2 c2 (ys.map bv) rfl (by rw [List.length_map, H2.out, Nat.mul_one]) (S2.out.below HB1.out) (one_bv _) (by unfold maxLen; omega) (by omega) hz1' ?_; intro v2 w2 hown2 hg2 hat2; have HB2 := hide (HB1.out.grown hg2 hz1' (fun g hg => (World.ownsRow.lt HO1.out g hg).1)); have HO2 := hide hown2; have hz2' := HB2.out.size; clear hown2 hg2 hat2)
    | (refine wpList_append_sl _ rfl _ _ 63 rfl w.heap.size 5 i0 (.int .u8 0) 1 1 Try.underlying63 hi hz0 hz1 hz2 rfl (by decide) _ (0 + n1 + n2) ([] ++ xs.map bv ++ ys.map bv) rfl HO2.out _ C n3 c3 (zs.map bv) rfl (by rw [List.length_map, H3.out, Nat.mul_one]) (S3.out.below HB2.out) (one_bv _) (by unfold maxLen; omega) (by omega) hz2' ?_; intro v3 w3 hown3 hg3 hat3; have HB3 := hide (HB2.out.grown hg3 hz2' (fun g hg => (World.ownsRow.lt HO2.out g hg).1)); have HO3 := hide hown3; have hz3' := HB3.out.size; clear hown3 hg3 hat3))
  have HX := hide (show ([] ++ xs.map bv ++ ys.map bv ++ zs.map bv : List Value) = (xs ++ ys ++ zs).map bv from by simp)
  rw [HX.out] at HO3
  obtain ⟨N, hN⟩ : ∃ N, 0 + n1 + n2 + n3 = N := ⟨_, rfl⟩
  rw [hN] at HO3
  have hNl : N ≤ 900 := by omega
  obtain ⟨tot, ht⟩ : ∃ tot, xs ++ ys ++ zs = tot := ⟨_, rfl⟩
  have HTL := hide (show tot.length = N from by rw [← ht, List.length_append, List.length_append, H1.out, H2.out, H3.out]; omega)
  have HFL := hide (show [xs, ys, zs].flatten = tot from by rw [← ht]; simp)
  have HBT := hide (show By tot from by
    rw [← ht]
    intro b hb
    rcases List.mem_append.1 hb with hb | hb
    · rcases List.mem_append.1 hb with hb | hb
      · exact BY.out.1 b hb
      · exact BY.out.2.1 b hb
    · exact BY.out.2.2 b hb)
  rw [ht] at HO3
  clear ht hN HX
  obtain ⟨A9, c9, rfl, e1, e2, e3⟩ := own_by HO3.out HTL.out
  have E1 := hide e1
  have E2 := hide e2
  have RT := hide e3
  clear e1 e2 e3 HO1 HO2 HO3 HB1 HB2 hz1' hz2'
  refine (twin_any A n1 c1 xs w3 H1.out (by omega) ((S1.out.below HB3.out).more hz3')).mono ?_
  rintro e w4 ⟨⟨g, cap, rfl, q1, q2, q3, TW⟩, b4⟩
  have TW := hide TW
  have Q2 := hide q2
  have BB4 := hide b4
  have B4 := hide (HB3.out.trans (b4.mono hz3'))
  have hz4 := b4.size
  clear b4 q2
  go_wp2_with fail
  have P4 := hide (put_any (some ⟨w4.heap.size, 0, none⟩) 3 3 [xs, ys, zs] (w4.alloc (.cells #[.slice (some ⟨g, 0, none⟩) n1 cap, .slice B n2 c2, .slice C n3 c3] 63)) rfl (by omega) (parts_lit H1.out H2.out H3.out l1 l2 l3 TW.out ((S2.out.below B4.out).more B4.out.size) ((S3.out.below B4.out).more B4.out.size) BY.out.1 BY.out.2.1 BY.out.2.2) (by rw [HFL.out, HTL.out]; omega))
  rw [HFL.out] at P4
  have hVl := ofV_lt tot
  obtain ⟨pt, hpt⟩ : ∃ pt, putV tot = pt := ⟨_, rfl⟩
  have HPT := hide (show pt.length = N + 4 from by rw [← hpt, putV_len4, HTL.out])
  rw [hpt, HPT.out] at P4
  refine P4.out.mono ?_
  rintro e w5 ⟨⟨A5, rfl, R5⟩, b5⟩
  have hz5 : w4.heap.size + 1 ≤ w5.heap.size := by have := b5.size; rw [alloc_size] at this; exact this
  have R5 := hide R5
  have BB5 := hide (((Below.refl w4.heap.size w4).alloc (Nat.le_refl _) (.cells #[.slice (some ⟨g, 0, none⟩) n1 cap, .slice B n2 c2, .slice C n3 c3] 63)).trans (b5.mono (by simp)))
  have B5 := hide (B4.out.trans (BB5.out.mono (by have := B4.out.size; omega)))
  have TW5 := hide (TW.out.below BB5.out (Nat.le_refl _))
  clear P4 b5
  have O6 := hide (of_any (some ⟨w5.heap.size, 0, none⟩) 3 3 [xs, ys, zs] (w5.alloc (.cells #[.slice (some ⟨g, 0, none⟩) n1 cap, .slice B n2 c2, .slice C n3 c3] 63)) rfl (by omega) (parts_lit H1.out H2.out H3.out l1 l2 l3 TW5.out ((S2.out.below B5.out).more B5.out.size) ((S3.out.below B5.out).more B5.out.size) BY.out.1 BY.out.2.1 BY.out.2.2))
  rw [HFL.out] at O6
  have RO := hide (fun W (h : Sl W W.heap.size A9 (tot.map bv)) => rof_any A9 N c9 tot W HTL.out (by omega) HBT.out h)
  have RP := hide (fun W (h : Sl W W.heap.size A9 (tot.map bv)) => rput_any A9 N c9 tot W HTL.out (by omega) HBT.out h)
  obtain ⟨V, hV⟩ : ∃ V, ofV tot = V := ⟨_, rfl⟩
  rw [hV] at O6 RO hVl
  rw [hpt] at RP
  clear hV hpt
  go_wp2_with fail
  refine O6.out.mono ?_
  rintro e w6 ⟨rfl, b6⟩
  have hz6 : w5.heap.size + 1 ≤ w6.heap.size := by have := b6.size; rw [alloc_size] at this; exact this
  have BB6 := hide (((Below.refl w5.heap.size w5).alloc (Nat.le_refl _) (.cells #[.slice (some ⟨g, 0, none⟩) n1 cap, .slice B n2 c2, .slice C n3 c3] 63)).trans (b6.mono (by simp)))
  have RT6 := hide (((RT.out.below BB4.out (Nat.le_refl _)).below BB5.out (Nat.le_refl _)).below BB6.out (Nat.le_refl _))
  clear b6 O6 RT
  go_wp2_with fail
  refine (RO.out _ RT6.out.sl).mono ?_
  rintro e w7 ⟨rfl, b7⟩
  have hz7 := b7.size
  have BB7 := hide (BB6.out.trans (b7.mono (by omega)))
  have RT7 := hide (RT6.out.below b7 (Nat.le_refl _))
  clear b7 BB6 RT6 RO
  go_wp2_with fail
  refine (RP.out _ RT7.out.sl).mono ?_
  rintro e w8 ⟨⟨v8, rfl, o8⟩, b8⟩
  have hz8 := b8.size
  have BB8 := hide (BB7.out.trans (b8.mono (by omega)))
  obtain ⟨A8, c8, rfl, _, _, r8⟩ := own_by o8 HPT.out
  have R8 := hide r8
  have R58 := hide (R5.out.below BB8.out (Nat.le_refl _))
  have TW8 := hide (TW5.out.below BB8.out (Nat.le_refl _))
  have B8 := hide (B5.out.trans (BB8.out.mono B5.out.size))
  clear b8 o8 r8 BB7 RT7 RP
  go_wp2_with fail
  refine (same_eq A5 A8 (N + 4) (N + 4) (N + 4) c8 _ _ pt w8 HPT.out HPT.out R58.out.sl R8.out.sl).mono ?_
  rintro e w' ⟨rfl, rfl⟩
  go_wp2_with fail
  refine (left_any A g n1 cap c1 xs w8 H1.out (by omega) q1 Q2.out TW8.out ((S1.out.below B8.out).more B8.out.size)).mono ?_
  rintro e w' ⟨rfl, rfl⟩
  go_wp2_with fail
  have N0 := hide (bok_new w8)
  have hmx : n1 ≤ maxLen := by unfold maxLen; omega
  have hmk : N + 4 ≤ maxLen := by unfold maxLen; omega
  have hgl : g < w8.heap.size := by obtain ⟨cur, h1, _⟩ := TW8.out; exact lt_of_blk h1
  have R5l := hide (fun g' (h : A5 = some ⟨g', 0, none⟩) => R58.out.lt h)
  refine (bknote_any _ n1 (some ⟨g, 0, none⟩) _ _ _ N0.out (by simp) hmx).mono ?_
  rintro e w9 ⟨rfl, v9, K9, o9, F9⟩
  have hz9 := F9.size
  have hz9 : w8.heap.size + 1 ≤ w9.heap.size := by rw [alloc_size] at hz9; exact hz9
  have K9 := hide K9
  have o9 := hide o9
  have F9 := hide (((Far.refl (fun k => k = w8.heap.size ∨ (Value.slice none 0 0).ownBlock = some k) w8).alloc (.cells #[.slice none 0 0, .slice none 0 0, .slice none 0 0, .bool false] 73)).trans F9)
  clear N0
  go_wp2_with fail
  refine (bknote_any _ (N + 4) A5 _ _ _ K9.out (by simp) hmk).mono ?_
  rintro e w10 ⟨rfl, v10, K10, o10, F10⟩
  have hz10 := F10.size
  have K10 := hide K10
  have o10 := hide o10
  have q9 := hide (fun g (h : v9.ownBlock = some g) => show w8.heap.size < g from (World.ownsRow.lt K9.out.2 g h).1)
  have FA := hide (show Far (fun k => k = w8.heap.size ∨ w8.heap.size < k) w8 w10 from (F9.out.wide (fun k h => h.elim .inl (fun h => by simp [Value.ownBlock] at h))).trans (F10.wide (fun k h => h.elim .inl (fun h => .inr (q9.out k h)))))
  have BA := hide (Far.below (Below.refl w8.heap.size w8) FA.out (Nat.le_refl _) (by rintro k (h | h) <;> omega))
  clear F9 F10
  go_wp2_with fail
  have TW10 := hide (TW8.out.below BA.out (Nat.le_refl _))
  have hfx : [xs].flatten = xs := by simp
  have P10 := hide (put_any (some ⟨w10.heap.size, 0, none⟩) 1 1 [xs] (w10.alloc (.cells #[.slice (some ⟨g, 0, none⟩) n1 cap] 63)) rfl (by omega) (parts_one H1.out hmx (cell_new' w10 _ _ _ 0 _ (by simp)) ((TW10.out.sl.alloc (Nat.le_refl _) _).more (by simp)) BY.out.1) (by rw [hfx, H1.out]; omega))
  rw [hfx] at P10
  obtain ⟨px, hpx⟩ : ∃ px, putV xs = px := ⟨_, rfl⟩
  have HPX := hide (show px.length = n1 + 4 from by rw [← hpx, putV_len4, H1.out])
  rw [hpx, HPX.out] at P10
  clear hpx hfx
  refine P10.out.mono ?_
  rintro e w11 ⟨⟨A11, rfl, R11⟩, b11⟩
  have hz11 : w10.heap.size + 1 ≤ w11.heap.size := by have := b11.size; rw [alloc_size] at this; exact this
  have R11 := hide (show ByRow w11 (w10.heap.size + 1) A11 px from by rw [alloc_size] at R11; exact R11)
  have BB11 := hide (((Below.refl w10.heap.size w10).alloc (Nat.le_refl _) (.cells #[.slice (some ⟨g, 0, none⟩) n1 cap] 63)).trans (b11.mono (by simp)))
  have K11 := hide (K10.out.far (far_of_below BB11.out) (fun h => h) (fun _ _ h => h))
  have R11l := hide (fun g' (h : A11 = some ⟨g', 0, none⟩) => R11.out.lt h)
  have q10 := hide (fun g (h : v10.ownBlock = some g) => And.intro (show w8.heap.size < g from (World.ownsRow.lt K10.out.2 g h).1) (show g < w10.heap.size from (World.ownsRow.lt K10.out.2 g h).2))
  clear P10 b11
  have hmy : n1 + 4 ≤ maxLen := by unfold maxLen; omega
  go_wp2_with fail
  refine (bknote_any _ (n1 + 4) A11 _ _ _ K11.out (by simp) hmy).mono ?_
  rintro e w12 ⟨rfl, v12, K12, o12, F12⟩
  have hz12 := F12.size
  have K12 := hide K12
  have o12 := hide o12
  have F12 := hide F12
  have PZ := hide (put_any none 0 0 [] w12 rfl (by omega) (parts_nil _ _) (by simp))
  rw [show ([] : List (List Nat)).flatten = [] from rfl] at PZ
  obtain ⟨pz, hpz⟩ : ∃ pz, putV [] = pz := ⟨_, rfl⟩
  have HPZ := hide (show pz.length = 4 from by rw [← hpz, putV_len4]; rfl)
  rw [hpz, HPZ.out] at PZ
  clear hpz
  go_wp2_with fail
  refine PZ.out.mono ?_
  rintro e w13 ⟨⟨A13, rfl, R13⟩, b13⟩
  have hz13 := b13.size
  have R13 := hide R13
  have BB13 := hide b13
  have K13 := hide (K12.out.far (far_of_below BB13.out) (fun h => h) (fun _ _ h => h))
  have R13l := hide (fun g' (h : A13 = some ⟨g', 0, none⟩) => R13.out.lt h)
  have q12 := hide (fun g (h : v12.ownBlock = some g) => show g < w12.heap.size from (World.ownsRow.lt K12.out.2 g h).2)
  clear b13 PZ
  go_wp2_with fail
  refine (bknote_any _ 4 A13 _ _ _ K13.out (by simp) (by unfold maxLen; omega)).mono ?_
  rintro e w14 ⟨rfl, v14, K14, o14, F14⟩
  have hz14 := F14.size
  have K14 := hide K14
  have o14 := hide o14
  have F14 := hide F14
  go_wp2_with fail
  have q12b := hide (fun g (h : v12.ownBlock = some g) => show (w8.heap.size < g ∧ g < w10.heap.size) ∨ w11.heap.size ≤ g from by
    rcases o12.out with h' | ⟨g', h', h''⟩
    · rw [h'] at h; exact .inl (q10.out g h)
    · rw [h'] at h; cases h; exact .inr h'')
  have q14 := hide (fun g (h : v14.ownBlock = some g) => show (w8.heap.size < g ∧ g < w10.heap.size) ∨ (w11.heap.size ≤ g ∧ g < w12.heap.size) ∨ w13.heap.size ≤ g from by
    rcases o14.out with h' | ⟨g', h', h''⟩
    · rw [h'] at h
      rcases q12b.out g h with h1 | h1
      · exact .inl h1
      · exact .inr (.inl ⟨h1, q12.out g h⟩)
    · rw [h'] at h; cases h; exact .inr (.inr h''))
  have hz810 := BA.out.size
  have hg4 : g < w4.heap.size := by obtain ⟨cur, h1, _⟩ := TW.out; exact lt_of_blk h1
  have R5g := hide (fun g' (h : A5 = some ⟨g', 0, none⟩) => show w4.heap.size ≤ g' ∧ g' < w8.heap.size from by
    have h1 := R5l.out g' h
    refine ⟨?_, h1.2⟩
    have := h1.1
    simp at this
    omega)
  have up := hide (fun (a : Option Addr) (us : List Nat) (b : Nat) (h : ByRow w8 b a us) => show ByRow w14 b a us from by
    have k0 := fun g' (e : a = some ⟨g', 0, none⟩) => (h.lt e).2
    refine ((((h.below BA.out (Nat.le_refl _)).below BB11.out (Nat.le_refl _)).far F12.out (fun g' e hh => ?_)).below BB13.out (Nat.le_refl _)).far F14.out (fun g' e hh => ?_)
    · have := k0 g' e
      rcases hh with hh | hh
      · omega
      · have := q10.out g' hh; omega
    · have := k0 g' e
      rcases hh with hh | hh
      · omega
      · rcases q12b.out g' hh with h1 | h1 <;> omega)
  have X0 := hide (up.out _ _ _ (TW8.out.byrow q3))
  have X1 := hide (up.out _ _ _ R58.out)
  have X2 := hide (((R11.out.far F12.out (fun g' e hh => by
    have := R11l.out g' e
    rcases hh with hh | hh
    · omega
    · have := q10.out g' hh; omega)).below BB13.out (Nat.le_refl _)).far F14.out (fun g' e hh => by
    have := R11l.out g' e
    rcases hh with hh | hh
    · omega
    · rcases q12b.out g' hh with h1 | h1 <;> omega))
  have X3 := hide (R13.out.far F14.out (fun g' e hh => by
    have := R13l.out g' e
    rcases hh with hh | hh
    · omega
    · have := q12.out g' hh; omega))
  have HH := hide (hold_of [(some ⟨g, 0, none⟩, xs), (A5, pt), (A11, px), (A13, pz)] (by
    intro p hp
    simp at hp
    rcases hp with rfl | rfl | rfl | rfl
    · exact ⟨_, X0.out⟩
    · exact ⟨_, X1.out⟩
    · exact ⟨_, X2.out⟩
    · exact ⟨_, X3.out⟩))
  have hro : rowsOf [((some ⟨g, 0, none⟩ : Option Addr), xs), (A5, pt), (A11, px), (A13, pz)] = [⟨some ⟨g, 0, none⟩, n1⟩, ⟨A5, N + 4⟩, ⟨A11, n1 + 4⟩, ⟨A13, 4⟩] := by simp [rowsOf, H1.out, HPT.out, HPX.out, HPZ.out]
  rw [hro] at HH
  clear hro
  have rng := hide (show ∀ (i : Nat) (r : Rw) (g' : Nat), ([⟨some ⟨g, 0, none⟩, n1⟩, ⟨A5, N + 4⟩, ⟨A11, n1 + 4⟩, ⟨A13, 4⟩] : List Rw)[i]? = some r → r.A = some ⟨g', 0, none⟩ → w.heap.size ≤ g' ∧ (if i = 0 then 0 else if i = 1 then w4.heap.size else if i = 2 then w10.heap.size else w12.heap.size) ≤ g' ∧ g' < (if i = 0 then w4.heap.size else if i = 1 then w8.heap.size else if i = 2 then w11.heap.size else w13.heap.size) ∧ g' ≠ w8.heap.size ∧ v14.ownBlock ≠ some g' from by
    have hb4 := B4.out.size
    intro i r g' hr hA
    match i, hr with
    | 0, hr =>
      cases hr
      cases hA
      refine ⟨by omega, by simp, by simpa using hg4, by omega, fun h => by have := q14.out _ h; omega⟩
    | 1, hr =>
      cases hr
      have := R5g.out g' hA
      refine ⟨by omega, by simp; omega, by simp; omega, by omega, fun h => by have := q14.out _ h; omega⟩
    | 2, hr =>
      cases hr
      have := R11l.out g' hA
      refine ⟨by omega, by simp; omega, by simp; omega, by omega, fun h => by have := q14.out _ h; omega⟩
    | 3, hr =>
      cases hr
      have := R13l.out g' hA
      refine ⟨by omega, by simp; omega, by simp; omega, by omega, fun h => by have := q14.out _ h; omega⟩)
  have HS := hide (sep_of (B := w8.heap.size) (v := v14) (rows := [⟨some ⟨g, 0, none⟩, n1⟩, ⟨A5, N + 4⟩, ⟨A11, n1 + 4⟩, ⟨A13, 4⟩]) (fun i => if i = 0 then 0 else if i = 1 then w4.heap.size else if i = 2 then w10.heap.size else w12.heap.size) (fun i => if i = 0 then w4.heap.size else if i = 1 then w8.heap.size else if i = 2 then w11.heap.size else w13.heap.size) (fun i r g' hr hA => (rng.out i r g' hr hA).2) (by
    intro i j hij hj
    simp at hj
    have : (i = 0 ∧ j = 1) ∨ (i = 0 ∧ j = 2) ∨ (i = 0 ∧ j = 3) ∨ (i = 1 ∧ j = 2) ∨ (i = 1 ∧ j = 3) ∨ (i = 2 ∧ j = 3) := by omega
    rcases this with ⟨rfl, rfl⟩ | ⟨rfl, rfl⟩ | ⟨rfl, rfl⟩ | ⟨rfl, rfl⟩ | ⟨rfl, rfl⟩ | ⟨rfl, rfl⟩ <;> simp <;> omega))
  have hb8 := B8.out.size
  have B14 := hide (Far.below ((((B8.out.trans (BA.out.mono hb8)).trans (BB11.out.mono (by omega)))) |> fun h => (Far.below h F12.out (by omega) (by
    rintro k (rfl | h)
    · omega
    · have := q10.out k h; omega)).trans (BB13.out.mono (by omega))) F14.out (by omega) (by
    rintro k (rfl | h)
    · omega
    · rcases q12b.out k h with h1 | h1 <;> omega))
  have HB := hide (fun k' (h : Blk [⟨some ⟨g, 0, none⟩, n1⟩, ⟨A5, N + 4⟩, ⟨A11, n1 + 4⟩, ⟨A13, 4⟩] k') => show w.heap.size ≤ k' from by
    obtain ⟨i, r, hr, _, hA⟩ := h
    exact (rng.out i r k' hr hA).1)
  refine (bkapart_any _ _ _ _ _ K14.out (by simp) (by simp) (by
    intro i r hr
    match i, hr with
    | 0, hr => cases hr; exact hmx
    | 1, hr => cases hr; exact hmk
    | 2, hr => cases hr; exact hmy
    | 3, hr => cases hr; show 4 ≤ maxLen; unfold maxLen; omega) HH.out HS.out).mono ?_
  rintro e w15 ⟨rfl, F15⟩
  have hz15 := F15.size
  have B15 := hide (Far.below B14.out F15 (by omega) HB.out)
  clear F15 HH HS HB rng
  go_wp2_with fail
  refine (slives_any _).mono ?_
  rintro e w16 ⟨rfl, b16⟩
  have B16 := hide (B15.out.trans (b16.mono (by omega)))
  clear b16
  go_wp2_with fail
  go_ret
  exact ⟨rfl, B16.out⟩
end Go.Proofs.Ytlbnikmaafccnaa
