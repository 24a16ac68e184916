/- The contracts of SameNums and of the chapter's examples of layer 3. -/
import Derived.Test.YtbniijmabebhoaaDoorPath
namespace Go.Proofs.YtbniijmabebhoaaDoor
open Go.RowKit
set_option linter.unusedVariables false
theorem same_step {xs ys : List Int} {k : Nat} (h : xs.take k = ys.take k) (hx : k < xs.length) (hy : k < ys.length) (e : xs[k] = ys[k]) : xs.take (k + 1) = ys.take (k + 1) := by
  rw [List.take_succ_eq_append_getElem hx, List.take_succ_eq_append_getElem hy, h, e]
set_option maxHeartbeats 1000000 in
theorem same_nums (A B : Option Addr) (xs ys : List Int) (n m c d : Nat) (w : World) (hn : xs.length = n) (hm : ys.length = m) (hn1 : n ≤ 1000000) (hm1 : m ≤ 1000000) (ha : Sl w w.heap.size A (xs.map (.int .i64))) (hb : Sl w w.heap.size B (ys.map (.int .i64))) :
    Calls Tryd.prog 41 #[.slice A n c, .slice B m d] w fun e w' => e = .returned (.bool (decide (xs = ys))) ∧ ∃ n, w' = w.drewN n := by
  by_cases hnm : n = m
  · subst hnm
    have HN := hide hn
    have HM := hide hm
    have HA := hide ha
    have HB := hide hb
    clear hn hm ha hb
    go_enter Tryd.func41, Tryd.ntmps41
    go_wp2_with fail
    go_loopw [5] (fun i wr => ∃ k q : Nat, k ≤ n ∧ i = .int .i64 k ∧ wr = w.drewN q ∧ Hid (xs.take k = ys.take k)) (fun i _ => n - (intOf i).toNat)
    case atStart => exact ⟨0, 0, Nat.zero_le _, rfl, rfl, by simp [Hid]⟩
    case round =>
      obtain ⟨k, q, hk, rfl, rfl, HT⟩ := hrel
      by_cases hlt : k < n
      · obtain ⟨ad, rfl, _, hc⟩ := HA.out.at_ (k := k) (by simpa [HN.out] using hlt)
        obtain ⟨ad1, rfl, _, hc1⟩ := HB.out.at_ (k := k) (by simpa [HM.out] using hlt)
        rw [List.getElem_map] at hc hc1
        have hx : k < xs.length := by rw [HN.out]; exact hlt
        have hy : k < ys.length := by rw [HM.out]; exact hlt
        have HS := hide (fun e : xs[k] = ys[k] => same_step HT.out hx hy e)
        have HD := hide (fun e : xs[k] ≠ ys[k] => show xs ≠ ys from fun h => e (by subst h; rfl))
        generalize xs[k] = x1 at *
        generalize ys[k] = y1 at *
        by_cases hxy : x1 = y1
        · have HE := hide (HS.out hxy)
          subst hxy
          clear HS HD
          go_wp2_with fail
          go_quiet (fail)
          go_wp2_with fail
          go_roundw
          case rel => exact ⟨k + 1, _, by omega, by go_num, rfl, HE⟩
          case measure => simp [intOf]; omega
        · have HE := hide (HD.out hxy)
          have hb1 : (x1 == y1) = false := by simpa using hxy
          clear HS HD
          go_wp2_with fail
          go_quiet (fail)
          go_wp2_with fail
          go_ret
          exact ⟨ret_bool (by rw [decide_eq_false HE.out]), _, World.drewN_drewN _ _ _⟩
      · have HE : Hid (xs = ys) := by
          have := HT.out
          rwa [List.take_of_length_le (by rw [HN.out]; omega), List.take_of_length_le (by rw [HM.out]; omega)] at this
        go_wp2_with fail
        go_ret
        exact ⟨ret_bool (by rw [decide_eq_true HE.out]), _, rfl⟩
  · have hne : xs ≠ ys := fun h => hnm (by rw [← hn, ← hm, h])
    have HE := hide hne
    have h1 : ((n : Int) == (m : Int)) = false := by simp; omega
    clear hne hn hm ha hb
    go_enter Tryd.func41, Tryd.ntmps41
    go_wp2_with fail
    go_ret
    exact ⟨ret_bool (by rw [decide_eq_false HE.out]), 0, rfl⟩
theorem row_sl {w : World} {base : Nat} {A : Option Addr} {xs : List Int} (h : IntRow w base A xs) : Sl w w.heap.size A (xs.map (.int .i64)) := by
  rcases h with ⟨rfl, rfl⟩ | ⟨g, cur, rfl, hb, hg, hl, ht⟩
  · exact Sl.nil
  · intro k u hu
    rw [← ht] at hu
    have hk : k < xs.length := by
      have := (List.getElem?_eq_some_iff.1 hu).1
      simp at this
      omega
    refine ⟨_, rfl, lt_of_blk hg, ?_⟩
    have e : (⟨g, 0, none⟩ : Addr).add k = ⟨g, k, none⟩ := by unfold Addr.add; split <;> simp_all
    rw [e, row_cell hg]
    rw [List.getElem?_take, if_pos hk] at hu
    simpa using hu
theorem IntRow.below {w w' : World} {base B : Nat} {A : Option Addr} {xs : List Int} (h : IntRow w base A xs) (hb : Below B w w') (hB : w.heap.size ≤ B) : IntRow w' base A xs := by
  rcases h with ⟨rfl, rfl⟩ | ⟨g, cur, rfl, h1, hg, hl, ht⟩
  · exact .inl ⟨rfl, rfl⟩
  · exact .inr ⟨g, cur, rfl, h1, by rw [hb.block g (by have := lt_of_blk hg; omega)]; exact hg, hl, ht⟩
set_option maxRecDepth 100000 in
set_option maxHeartbeats 2000000 in
theorem rlives_any (w : World) (g : Signs w) : Calls Tryd.prog 32 #[] w fun e w' => e = .returned (.bool true) ∧ Below w.heap.size w w' := by
  have g0 : 0 < w.heap.size := by have := lt_of_cell g.1; exact Nat.lt_of_le_of_lt (Nat.zero_le _) this
  have GS := hide g
  clear g
  have s1 : Rg.step 6 1 3 2 = 1 := by decide
  have p1 := hide (show Rg.pathL 6 0 0 5 1 = [2, 4] from by decide)
  have p2 := hide (show Rg.pathL 6 0 0 5 2 = [1, 3] from by decide)
  go_enter Tryd.func32, Tryd.ntmps32
  go_wp2_with fail
  refine (ends_good 6 15 w (by decide) GS.out).mono ?_
  rintro e w1 ⟨rfl, n1, rfl⟩
  have G1 := hide (show Signs (w.drewN n1) from GS.out)
  have b1 := hide (below_drewN (Below.refl w.heap.size w) n1)
  go_wp2_with fail
  refine (path_some 6 0 0 5 1 _ (by omega) G1.out g0 (by decide)).mono ?_
  rintro e w2 ⟨⟨A1, rfl, r1⟩, bb1⟩
  rw [p1.out] at r1 ⊢
  have b2 := hide (b1.out.trans bb1)
  have R1 := hide r1
  clear r1 bb1 b1 G1
  go_wp2_with fail
  refine (path_some 6 0 0 5 2 _ (by omega) (GS.out.below b2.out g0) (Nat.lt_of_lt_of_le g0 b2.out.size) (by decide)).mono ?_
  rintro e w3 ⟨⟨A2, rfl, r2⟩, bb2⟩
  rw [p2.out] at r2 ⊢
  have b3 := hide (b2.out.trans (bb2.mono b2.out.size))
  have R1' := hide (R1.out.below bb2 (Nat.le_refl _))
  have R2 := hide r2
  clear r2 bb2 b2 R1
  have G3 := hide (GS.out.below b3.out g0)
  go_wp2_with fail
  refine (step_any 6 1 1 2 _ (by omega) G3.out).mono ?_
  rintro e w4 ⟨rfl, n4, rfl⟩
  rw [show Rg.step 6 1 1 2 = 5 from by decide]
  go_wp2_with fail
  refine (dist_any 6 0 4 1 _ (by omega) (show Signs (w3.drewN n4) from G3.out)).mono ?_
  rintro e w4 ⟨rfl, rfl⟩
  rw [show Rg.dist 6 0 4 1 = 3 from by decide]
  go_wp2_with fail
  refine (src_any 6 0 0 2 _ (by omega) (show Signs (w3.drewN n4) from G3.out)).mono ?_
  rintro e w4 ⟨rfl, n5, rfl⟩
  rw [show Rg.src 6 0 0 2 = 4 from by decide]
  go_wp2_with fail
  refine (link_any 6 1 3 2 _ (by omega)).mono ?_
  rintro e w4 ⟨rfl, rfl⟩
  rw [show Rg.link 6 1 3 2 = 15 from by decide]
  go_wp2_with fail
  refine (place_any 6 1 2 1 _ (by omega) (show Signs (w3.drewN _) from G3.out)).mono ?_
  rintro e w4 ⟨rfl, n6, rfl⟩
  rw [show Rg.place 6 1 2 1 = 2 from by decide]
  go_wp2_with fail
  have T1 := hide (row_sl R1'.out)
  have T2 := hide (row_sl R2.out)
  have Z := hide (Nat.le_refl w3.heap.size)
  refine (same_nums A1 _ [2, 4] [2, 4] 2 2 2 2 _ rfl rfl (by omega) (by omega) (by exact ((T1.out.drewN _).alloc (by simp) _).more (by simp)) (by exact Sl.new (w3.drewN _) #[.int .i64 2, .int .i64 4] 3 (0, 0) _ rfl)).mono ?_
  rintro e w4 ⟨rfl, n7, rfl⟩
  rw [show decide (([2, 4] : List Int) = [2, 4]) = true from rfl]
  go_wp2_with fail
  refine (same_nums A2 _ [1, 3] [1, 3] 2 2 2 2 _ rfl rfl (by omega) (by omega) (by exact ((((T2.out.drewN _).alloc (by simp) _).drewN n7).alloc (by simp) _).more (by simp; omega)) (by exact Sl.new' _ #[.int .i64 1, .int .i64 3] 3 (0, 0) _ _ (by simp) rfl)).mono ?_
  rintro e w4 ⟨rfl, n8, rfl⟩
  rw [show decide (([1, 3] : List Int) = [1, 3]) = true from rfl]
  go_wp2_with fail
  go_ret
  refine ⟨rfl, below_drewN ((below_drewN ((below_drewN b3.out _).alloc (by have := b3.out.size; simp; omega) _) _).alloc (by have := b3.out.size; simp; omega) _) _⟩
end Go.Proofs.YtbniijmabebhoaaDoor
