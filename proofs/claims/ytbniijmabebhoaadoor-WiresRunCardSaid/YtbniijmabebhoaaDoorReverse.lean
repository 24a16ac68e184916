/- The contract of slices.Reverse at []int, over a row of the call's own; and of slices.Clip. -/
import Derived.Test.YtbniijmabebhoaaDoorProg
import Derived.Test.YtbniijmabebhoaaDoorLineWords
import Derived.WalkLawsBesides
import Derived.Outline
import Derived.BigQuiet
import Derived.BigRegion
import Derived.Deep.QuietTactic
import Derived.Deep.LoopGhost
namespace Go.Proofs.YtbniijmabebhoaaDoor
open Go.RowKit
set_option linter.unusedVariables false
/-- Cell q of a row of m cells, xs, of which k at either end have been exchanged. -/
def revAt (xs : List Int) (k q : Nat) : Option Int := if q < k ∨ xs.length ≤ q + k then xs[xs.length - 1 - q]? else xs[q]?
/-- The row as it stands: block g holds at its head what revAt says. -/
def RevRow (w : World) (g : Nat) (xs : List Int) (k : Nat) : Prop := ∃ cur : Array Value, w.heap[g]? = some (.cells cur 3 (0, 0)) ∧ xs.length ≤ cur.size ∧ ∀ q, q < xs.length → cur[q]? = (revAt xs k q).map (Value.int .i64)
theorem rev_step {w : World} {g k : Nat} {xs : List Int} {a b : Int} (h : RevRow w g xs k) (hk : k + k + 1 < xs.length) (ha : xs[k]? = some a) (hb : xs[xs.length - 1 - k]? = some b) :
    RevRow ((w.setCell ⟨g, k, none⟩ (.int .i64 b)).setCell ⟨g, xs.length - 1 - k, none⟩ (.int .i64 a)) g xs (k + 1) := by
  obtain ⟨cur, hg, hs, hc⟩ := h
  refine ⟨_, row_set (row_set hg _ _) _ _, by simpa using hs, fun q hq => ?_⟩
  rw [Array.getElem?_setIfInBounds, Array.getElem?_setIfInBounds]
  have h0 := hc q hq
  unfold revAt at h0 ⊢
  by_cases e1 : xs.length - 1 - k = q
  · subst e1
    rw [if_pos rfl, if_pos (by rw [Array.size_setIfInBounds]; omega), if_pos (by omega), show xs.length - 1 - (xs.length - 1 - k) = k from by omega, ha]
    rfl
  · rw [if_neg e1]
    by_cases e2 : k = q
    · subst e2
      rw [if_pos rfl, if_pos (by omega), if_pos (by omega), hb]
      rfl
    · rw [if_neg e2, h0]
      by_cases e3 : q < k ∨ xs.length ≤ q + k
      · rw [if_pos e3, if_pos (by omega)]
      · rw [if_neg e3, if_neg (by omega)]
theorem rev_start {w : World} {g : Nat} {xs : List Int} {cur : Array Value} (hg : w.heap[g]? = some (.cells cur 3 (0, 0))) (hs : xs.length ≤ cur.size) (hc : cur.toList.take xs.length = xs.map (.int .i64)) : RevRow w g xs 0 := by
  refine ⟨cur, hg, hs, fun q hq => ?_⟩
  unfold revAt
  rw [if_neg (by omega)]
  have : (cur.toList.take xs.length)[q]? = (xs.map (Value.int .i64))[q]? := by rw [hc]
  rw [List.getElem?_take, if_pos hq] at this
  simpa using this
theorem rev_end {w : World} {g k : Nat} {xs : List Int} (h : RevRow w g xs k) (hk : xs.length ≤ k + k + 1) : ∃ cur : Array Value, w.heap[g]? = some (.cells cur 3 (0, 0)) ∧ xs.length ≤ cur.size ∧ cur.toList.take xs.length = xs.reverse.map (.int .i64) := by
  obtain ⟨cur, hg, hs, hc⟩ := h
  refine ⟨cur, hg, hs, List.ext_getElem? fun q => ?_⟩
  rw [List.getElem?_take]
  split
  · rename_i hq
    have h0 := hc q hq
    rw [Array.getElem?_toList, h0, List.getElem?_map, List.getElem?_reverse hq]
    unfold revAt
    split
    · rfl
    · rw [show xs.length - 1 - q = q from by omega]
  · rename_i hq
    rw [List.getElem?_eq_none (by simp; omega)]
theorem rev_cell {w : World} {g k q : Nat} {xs : List Int} {a : Int} (h : RevRow w g xs k) (hq : k ≤ q) (hq' : q + k < xs.length) (ha : xs[q]? = some a) : w.cell? ⟨g, q, none⟩ = some (.int .i64 a) := by
  obtain ⟨cur, hg, hs, hc⟩ := h
  rw [row_cell hg, hc q (by omega)]
  unfold revAt
  rw [if_neg (by omega), ha]
  rfl
theorem rev_free {w : World} {g k q : Nat} {xs : List Int} (h : RevRow w g xs k) : w.frozen? ⟨g, q, none⟩ = false := by
  obtain ⟨cur, hg, _⟩ := h
  exact row_free hg q
theorem reverse_nil (w : World) : Calls Tryd.prog 59 #[.slice none 0 0] w fun e w' => e = .returned (.tuple #[]) ∧ w = w' := by
  go_enter Tryd.func59, Tryd.ntmps59
  go_wp2_with fail
  refine wp_loop_rounds 1 ?_; rw [rounds_succ]; go_wp2_with fail
  go_end0
  exact ⟨rfl, rfl⟩
set_option maxHeartbeats 1000000 in
theorem reverse_any (g c : Nat) (xs : List Int) (m : Nat) (hm : xs.length = m) (hm1 : m ≤ 1000000) (w : World) (h : RevRow w g xs 0) :
    Calls Tryd.prog 59 #[.slice (some ⟨g, 0, none⟩) m c] w fun e w' => e = .returned (.tuple #[]) ∧ (∃ k, RevRow w' g xs k ∧ m ≤ k + k + 1) ∧ Far (fun k => k = g) w w' := by
  have HM := hide hm
  clear hm
  go_enter Tryd.func59, Tryd.ntmps59
  go_wp2_with fail
  go_loopw [2, 3] (fun i j wr => ∃ k : Nat, i = .int .i64 k ∧ j = .int .i64 ((m : Int) - 1 - k) ∧ k + k ≤ m + 1 ∧ Hid (RevRow wr g xs k) ∧ Hid (Far (fun k => k = g) w wr)) (fun i _ _ => m - (intOf i).toNat)
  case atStart => exact ⟨0, rfl, by go_num, by omega, h, Far.refl _ _⟩
  case round =>
    obtain ⟨k, rfl, rfl, hk, K1, K2⟩ := hrel
    by_cases hlt : k + k + 1 < m
    · have hkm : (k : Int) < (m : Int) - 1 - k := by omega
      obtain ⟨a, ha⟩ : ∃ a, xs[k]? = some a := ⟨_, List.getElem?_eq_getElem (by rw [HM.out]; omega)⟩
      obtain ⟨b, hb⟩ : ∃ b, xs[xs.length - 1 - k]? = some b := ⟨_, List.getElem?_eq_getElem (by rw [HM.out]; omega)⟩
      have c1 := rev_cell K1.out (Nat.le_refl k) (by rw [HM.out]; omega) ha
      have c2 := rev_cell (q := xs.length - 1 - k) K1.out (by rw [HM.out]; omega) (by rw [HM.out]; omega) hb
      have f1 := rev_free (q := k) K1.out
      have f2 := rev_free (q := xs.length - 1 - k) K1.out
      have HA := hide ha
      have HB := hide hb
      clear ha hb
      rw [HM.out] at c2 f2
      go_wp2_with fail
      go_region
      go_wp2_with fail
      go_roundw
      case rel =>
        refine ⟨k + 1, by go_num, by go_num, by omega, ?_, ?_⟩
        · have := rev_step K1.out (by rw [HM.out]; omega) HA.out HB.out
          rw [HM.out] at this
          exact this
        · exact ((K2.out.setCell (.inl rfl) _).setCell (.inl rfl) _).drew
      case measure => simp [intOf]; omega
    · go_wp2_with fail
      go_end0
      exact ⟨rfl, ⟨k, K1.out, by omega⟩, K2.out⟩
theorem clip_ints (A : Option Addr) (n c : Nat) (w : World) (hc : n ≤ c) (hm : c ≤ maxLen) : Calls Tryd.prog 60 #[.slice A n c] w fun e w' => e = .returned (.slice A n n) ∧ w = w' := by
  unfold maxLen at hm
  have h1 : (n : Int) ≤ c := by omega
  go_enter Tryd.func60, Tryd.ntmps60
  go_wp2
  go_ret
  exact ⟨rfl, rfl⟩
end Go.Proofs.YtbniijmabebhoaaDoor
