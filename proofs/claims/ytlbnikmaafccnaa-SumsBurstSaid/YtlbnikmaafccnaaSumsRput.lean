/- The reference's Put, in memory. -/
import Derived.Test.YtlbnikmaafccnaaSumsRef
namespace Go.Proofs.Ytlbnikmaafccnaa
open Go.RowKit Sm
set_option linter.unusedVariables false
theorem take_sum (L : List Nat) (t : Nat) (y : Nat) (ht : t < L.length) (hx : L.getD t 0 = y) (K : List Nat) : (K ++ L.take t).map bv ++ [.int .u8 (y : Int)] = (K ++ L.take (t + 1)).map bv := by
  rw [List.take_succ_eq_append_getElem ht]
  rw [List.getD_eq_getElem?_getD, List.getElem?_eq_getElem ht] at hx
  simp only [Option.getD_some] at hx
  simp [hx, bv]
theorem sum_at (V t : Nat) (hV : V < 4294967296) (ht : t < 4) : (V : Int) / 2 ^ (8 * (3 - t)) % 256 = (((sumB V).getD t 0 : Nat) : Int) := by
  have h4 : t = 0 ∨ t = 1 ∨ t = 2 ∨ t = 3 := by omega
  rcases h4 with rfl | rfl | rfl | rfl
  · show (V : Int) / 16777216 % 256 = ((V / 16777216 : Nat) : Int)
    omega
  · show (V : Int) / 65536 % 256 = ((V / 65536 % 256 : Nat) : Int)
    omega
  · show (V : Int) / 256 % 256 = ((V / 256 % 256 : Nat) : Int)
    omega
  · show (V : Int) / 1 % 256 = ((V % 256 : Nat) : Int)
    omega
set_option maxRecDepth 100000 in
set_option maxHeartbeats 4000000 in
theorem rput_any (A : Option Addr) (n c : Nat) (bs : List Nat) (w : World) (hn : bs.length = n) (hs : n ≤ 2000) (hb : By bs) (hx : Sl w w.heap.size A (bs.map bv)) :
    Calls Try.prog 36 #[.slice A n c] w fun e w' => (∃ v, e = .returned v ∧ w'.ownsRow w.heap.size 5 1 v (n + 4) ((putV bs).map bv)) ∧ Below w.heap.size w w' := by
  obtain ⟨i0, hi, hz0, hz1, hz2⟩ := info_parts info5
  have CR := hide (rof_any A n c bs w hn hs hb hx)
  have hvl := ofV_lt bs
  have hpv : putV bs = bs ++ sumB (ofV bs) := rfl
  obtain ⟨V, hV⟩ : ∃ V, ofV bs = V := ⟨_, rfl⟩
  rw [hV] at CR hvl hpv
  clear hV
  rw [hpv]
  clear hpv
  have HN := hide hn
  have HX := hide hx
  clear hn hx hb
  go_enter Try.func36, Try.ntmps36
  go_wp2_with fail
  refine CR.out.mono ?_
  rintro e w1 ⟨rfl, hb1⟩
  have HB := hide hb1
  have hsz := hb1.size
  have HS1 := hide (HX.out.below hb1)
  clear hb1 CR HX
  go_wp2_with (at_builtin; refine wpList_append_sl _ rfl _ _ 63 rfl w.heap.size 5 i0 (.int .u8 0) 1 1 Try.underlying63 hi hz0 hz1 hz2 rfl (by decide) (.slice none 0 0) 0 [] rfl (World.ownsRow_nil _ _ _ _) _ A n c (bs.map bv) rfl (by rw [List.length_map, HN.out, Nat.mul_one]) HS1.out (one_bv _) (by unfold maxLen; omega) (by omega) hsz ?_; intro v2 w2 hown2 hg2 hat2)
  have HO := hide hown2
  have HB2 := hide (HB.out.grown hg2 hsz (fun k hk => by simp [Value.ownBlock] at hk))
  clear hown2 hg2 hat2 HB hsz HS1
  go_wp2_with fail
  go_loopg [4, 5] 4 (fun gk v i wr => ∃ t : Nat, gk + t = 4 ∧ i = .int .i64 (3 - t) ∧ Hid (wr.ownsRow w.heap.size 5 1 v (n + t) ((bs ++ (sumB V).take t).map bv)) ∧ Hid (Below w.heap.size w wr))
  case atStart => exact ⟨0, rfl, rfl, by have := HO.out; simpa [Hid] using this, HB2⟩
  case round =>
    obtain ⟨t, hgt, rfl, HO3, HB3⟩ := hrel
    clear HO HB2
    obtain ⟨w3, hw3⟩ : ∃ x, x = wr := ⟨_, rfl⟩
    subst hw3
    have hsz : w.heap.size ≤ w3.heap.size := HB3.out.size
    by_cases hlt : t < 4
    · have hy : (0 : Int) ≤ 3 - (t : Int) := by omega
      have hy2 : 3 - (t : Int) ≤ 3 := by omega
      obtain ⟨y, hyy⟩ : ∃ y, (sumB V).getD t 0 = y := ⟨_, rfl⟩
      have hsa := sum_at V t hvl hlt
      rw [hyy] at hsa
      have HYY := hide hyy
      clear hyy
      obtain ⟨s, hs8⟩ : ∃ s, 8 * (3 - t) = s := ⟨_, rfl⟩
      rw [hs8] at hsa
      have hse : 8 * (3 - (t : Int)) = (s : Int) := by omega
      have hsl : (s : Int) ≤ 24 := by omega
      clear hs8
      have htl : t < (sumB V).length := hlt
      have HTL := hide htl
      clear htl
      go_wp2_with (at_builtin; refine wpList_append_sl _ rfl _ _ 63 rfl w.heap.size 5 i0 (.int .u8 0) 1 1 Try.underlying63 hi hz0 hz1 hz2 rfl (by decide) _ (n + t) ((bs ++ (sumB V).take t).map bv) rfl (HO3.out.alloc _) _ _ 1 1 [.int .u8 y] rfl rfl (Sl.one (cell_new' _ #[.int .u8 y] 5 (0, 0) 0 _ (by simp))) (by simp [Value.oneCell']) (by unfold maxLen; omega) (by omega) (by simp; omega) ?_; intro v4 w4 hown4 hg4 hat4)
      have KO := hide hown4
      have KB := hide ((HB3.out.alloc hsz (.cells #[.int .u8 y] 5)).grown hg4 (by simp; omega) (fun g hg => (World.ownsRow.lt HO3.out g hg).1))
      clear hown4 hg4 hat4
      go_roundg (gk - 1)
      case measure => omega
      case rel =>
        refine ⟨t + 1, by omega, by congr 1; omega, ?_, KB.out⟩
        have := KO.out
        rw [take_sum _ _ _ HTL.out HYY.out] at this
        exact this
    · obtain rfl : t = 4 := by omega
      clear hgt
      have HO4 : Hid (w3.ownsRow w.heap.size 5 1 u4 (n + 4) ((bs ++ sumB V).map bv)) := HO3
      go_wp2_with fail
      go_ret
      exact ⟨⟨_, rfl, HO4.out⟩, HB3.out⟩
