/- TwinBytes: a slice's copy with room and two marks behind it; LeftBytes: it is as it was made. -/
import Derived.Test.YtlbnikmaafccnaaSumsRcheck
namespace Go.Proofs.Ytlbnikmaafccnaa
open Go.RowKit Sm
set_option linter.unusedVariables false
/-- A twin of xs: block g. -/
def Twin (w : World) (g : Nat) (xs : List Nat) : Prop := ∃ cur, w.heap[g]? = some (.cells cur 5 (0, 0)) ∧ cur.toList.take (xs.length + 2) = (xs ++ [77, 77]).map bv
theorem Twin.far {S : Nat → Prop} {w w' : World} {g : Nat} {xs : List Nat} (h : Twin w g xs) (hf : Far S w w') (hn : ¬ S g) : Twin w' g xs := by
  obtain ⟨cur, h1, h2⟩ := h
  exact ⟨cur, (hf.block g (lt_of_blk h1) hn).trans h1, h2⟩
theorem Twin.at_ {w : World} {g : Nat} {xs : List Nat} (h : Twin w g xs) (j : Nat) (x : Nat) (hx : (xs ++ [77, 77])[j]? = some x) : w.cell? ⟨g, j, none⟩ = some (bv x) := by
  obtain ⟨cur, h1, h2⟩ := h
  have hj : j < xs.length + 2 := by have := (List.getElem?_eq_some_iff.1 hx).1; simpa using this
  rw [row_cell h1 j]
  have : (cur.toList.take (xs.length + 2))[j]? = some (bv x) := by rw [h2, List.getElem?_map, hx]; rfl
  rw [List.getElem?_take, if_pos hj] at this
  simpa using this
theorem Twin.sl {w : World} {g : Nat} {xs : List Nat} (h : Twin w g xs) : Sl w w.heap.size (some ⟨g, 0, none⟩) (xs.map bv) := by
  intro k u hu
  rw [List.getElem?_map] at hu
  cases hx : xs[k]? with
  | none => rw [hx] at hu; simp at hu
  | some x =>
    rw [hx] at hu
    simp at hu
    subst hu
    refine ⟨_, rfl, ?_, ?_⟩
    · obtain ⟨cur, h1, _⟩ := h; exact lt_of_blk h1
    · have e : (⟨g, 0, none⟩ : Addr).add k = ⟨g, k, none⟩ := by unfold Addr.add; split <;> simp_all
      rw [e]
      exact h.at_ k x (by rw [List.getElem?_append_left (List.getElem?_eq_some_iff.1 hx).1]; exact hx)
theorem Twin.m1 {w : World} {g m : Nat} {xs : List Nat} (h : Twin w g xs) (hm : xs.length = m) : w.cell? ⟨g, m, none⟩ = some (.int .u8 77) ∧ w.cell? ⟨g, m + 1, none⟩ = some (.int .u8 77) := by
  subst hm
  exact ⟨h.at_ _ 77 (by simp), h.at_ _ 77 (by simp)⟩
theorem own_cap {w : World} {base n g c size : Nat} {e : TypeId} {xs : List Value} (h : w.ownsRow base e size (.slice (some ⟨g, 0, none⟩) n c) n xs) : n ≤ c ∧ c ≤ maxLen ∧ base ≤ g ∧ ∃ cur, w.heap[g]? = some (.cells cur e (0, 0)) ∧ cur.toList.take (n * size) = xs := by
  rcases h.2 with ⟨h0, _⟩ | ⟨g', cap, cur, e, hb, hg, hc, hm, hs, ht⟩
  · cases h0
  · cases e
    exact ⟨hc, hm, hb, cur, hg, ht⟩
set_option maxRecDepth 100000 in
set_option maxHeartbeats 2000000 in
theorem twin_any (A : Option Addr) (m c : Nat) (xs : List Nat) (w : World) (hm : xs.length = m) (hs : m ≤ 10000) (hx : Sl w w.heap.size A (xs.map bv)) :
    Calls Try.prog 31 #[.slice A m c] w fun e w' => (∃ g cap, e = .returned (.slice (some ⟨g, 0, none⟩) m cap) ∧ m + 2 ≤ cap ∧ cap ≤ maxLen ∧ w.heap.size ≤ g ∧ Twin w' g xs) ∧ Below w.heap.size w w' := by
  obtain ⟨i0, hi, hz0, hz1, hz2⟩ := info_parts info5
  have HM := hide hm
  have HX := hide hx
  clear hm hx
  go_enter Try.func31, Try.ntmps31
  go_wp2_with (at_builtin; first | (refine wpList_append_sl _ rfl _ _ 63 rfl w.heap.size 5 i0 (.int .u8 0) 1 1 Try.underlying63 hi hz0 hz1 hz2 rfl (by decide) (.slice none 0 0) 0 [] rfl (World.ownsRow_nil _ _ _ _) _ A m c (xs.map bv) rfl (by rw [List.length_map, HM.out, Nat.mul_one]) HX.out (one_bv _) (by unfold maxLen; omega) (by omega) (Nat.le_refl _) ?_; intro v1 w1 hown1 hg1 hat1; have HB := hide ((Below.refl w.heap.size w).grown hg1 (Nat.le_refl _) (by simp [Value.ownBlock])); have HO := hide hown1; have hz := HB.out.size; clear hown1 hg1 hat1) | (refine wpList_append_lies _ rfl _ _ 63 rfl w.heap.size 5 i0 (.int .u8 0) 1 1 Try.underlying63 hi hz0 hz1 hz2 rfl (by decide) _ (0 + m) ([] ++ xs.map bv) rfl (HO.out.alloc _) ⟨w1.heap.size, 0, none⟩ 2 2 [.int .u8 77, .int .u8 77] rfl rfl (World.news_of_block (heap_alloc_new w1 (.cells #[.int .u8 77, .int .u8 77] 5))) (by simp [Value.oneCell']) (by omega) (by unfold maxLen; omega) (by omega) (by simp; omega) (w1.heap.size + 1) (by simp) ?_; intro g cap w2 hown2 hg2 hat2 hlt2; obtain ⟨k1, k2, k3, k4⟩ := own_cap hown2; have k2' : cap ≤ 9223372036854775807 := k2; have K2 := hide k2; have K4 := hide k4; have HB2 := hide ((HB.out.alloc hz (.cells #[.int .u8 77, .int .u8 77] 5)).grown hg2 (by simp; omega) (fun g hg => (World.ownsRow.lt HO.out g hg).1)); clear hown2 hg2 hat2 hlt2 k2 k4))
  go_ret
  obtain ⟨cur, h1, h2⟩ := K4.out
  refine ⟨⟨g, cap, rfl, by omega, K2.out, k3, cur, h1, ?_⟩, HB2.out⟩
  have hm := HM.out
  subst hm
  rw [show 0 + xs.length + 2 = xs.length + 2 from by omega, Nat.mul_one] at h2
  simpa [bv] using h2
set_option maxRecDepth 100000 in
set_option maxHeartbeats 2000000 in
theorem left_any (A : Option Addr) (g m cap c : Nat) (xs : List Nat) (w : World) (hm : xs.length = m) (hs : m ≤ 10000) (hc : m + 2 ≤ cap) (hc' : cap ≤ maxLen) (hT : Twin w g xs) (hx : Sl w w.heap.size A (xs.map bv)) :
    Calls Try.prog 37 #[.slice (some ⟨g, 0, none⟩) m cap, .slice A m c] w fun e w' => e = .returned (.bool true) ∧ w = w' := by
  unfold maxLen at hc'
  have SN := hide (same_eq (some ⟨g, 0, none⟩) A m m cap c _ _ xs w hm hm hT.sl hx)
  obtain ⟨m1, m2⟩ := hT.m1 hm
  have hd : decide ((cap : Int) < (m : Int) + 2) = false := decide_eq_false (by omega)
  clear hT hx hm
  go_enter Try.func37, Try.ntmps37
  go_wp2_with fail
  refine SN.out.mono ?_
  rintro e w' ⟨rfl, rfl⟩
  go_wp2_with fail
  go_ret
  exact ⟨rfl, rfl⟩
end Go.Proofs.Ytlbnikmaafccnaa
