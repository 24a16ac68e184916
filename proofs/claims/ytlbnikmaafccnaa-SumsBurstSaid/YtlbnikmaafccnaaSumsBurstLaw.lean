/- The sum of layer 2 tells every burst: bytes that were summed, of which bits were turned within 32 neighbouring ones, are not summed bytes. -/
import Derived.Test.YtlbnikmaafccnaaSumsEvenLaw
import Derived.Test.YtlbnikmaafccnaaSumsLives
namespace Go.Proofs.Ytlbnikmaafccnaa
set_option linter.unusedVariables false
namespace Sm
def num : List Bool → Nat
  | [] => 0
  | x :: l => (if x then 1 else 0) * 2 ^ l.length + num l
theorem num_lt (l : List Bool) : num l < 2 ^ l.length := by
  induction l with
  | nil => simp [num]
  | cons x l ih =>
    simp only [num, List.length_cons, Nat.pow_succ]
    cases x <;> simp <;> omega
theorem num_append (a b : List Bool) : num (a ++ b) = num a * 2 ^ b.length + num b := by
  induction a with
  | nil => simp [num]
  | cons x l ih => simp only [List.cons_append, num, ih, List.length_append, Nat.pow_add, Nat.add_mul, Nat.mul_assoc, Nat.add_assoc]
theorem num_zero (l : List Bool) (h : num l = 0) : ∀ b ∈ l, b = false := by
  induction l with
  | nil => intro b hb; simp at hb
  | cons x l ih =>
    have hp : 0 < 2 ^ l.length := Nat.pow_pos (by decide)
    simp only [num] at h
    intro b hb
    rcases List.mem_cons.1 hb with rfl | hb
    · cases b with
      | false => rfl
      | true => exfalso; rw [if_pos rfl] at h; omega
    · exact ih (by omega) b hb
theorem num_bits : ∀ b, b < 256 → num (bits b) = b := by decide +kernel
theorem Tn_succ' (k r : Nat) : Tn (k + 1) r = Tn k (T r) := by
  induction k with
  | zero => rfl
  | succ k ih => show T (Tn (k + 1) r) = _; rw [ih]; rfl
theorem T_small (r : Nat) (h : r < 2147483648) : T r = 2 * r := by unfold T; rw [if_neg (by omega)]
theorem top_xor (y : Nat) (h : y < 2147483648) : 2147483648 ^^^ y = 2147483648 + y := by
  apply Nat.eq_of_testBit_eq
  intro j
  rw [Nat.testBit_xor, show (2147483648 : Nat) = 2 ^ 31 from rfl]
  rcases Nat.lt_trichotomy j 31 with hj | rfl | hj
  · rw [Nat.testBit_two_pow_add_gt hj, Nat.testBit_two_pow, decide_eq_false (by omega), Bool.false_xor]
  · rw [Nat.testBit_two_pow_add_eq, Nat.testBit_two_pow, decide_eq_true rfl, Bool.true_xor]
  · have h2 : 4294967296 ≤ 2 ^ j := Nat.pow_le_pow_right (n := 2) (by omega) (show 32 ≤ j by omega)
    rw [Nat.testBit_lt_two_pow (show y < 2 ^ j by omega), Nat.testBit_lt_two_pow (show 2 ^ 31 + y < 2 ^ j by omega), Nat.testBit_two_pow, decide_eq_false (by omega), Bool.false_xor]
theorem fold_num (xs : List Bool) : ∀ r, xs.length ≤ 32 → r < 4294967296 → fold r xs = Tn xs.length (r ^^^ (num xs * 2 ^ (32 - xs.length))) := by
  induction xs with
  | nil => intro r _ _; simp [fold, num, Tn]
  | cons x l ih =>
    intro r hl hr
    simp only [List.length_cons] at hl
    have h1 : num l * 2 ^ (31 - l.length) < 2147483648 := by
      have := Nat.mul_lt_mul_of_pos_right (num_lt l) (show 0 < 2 ^ (31 - l.length) from Nat.pow_pos (by decide))
      rw [← Nat.pow_add, show l.length + (31 - l.length) = 31 from by omega] at this
      exact this
    have h2 : num (x :: l) * 2 ^ (32 - (l.length + 1)) = (if x then 2147483648 else 0) ^^^ (num l * 2 ^ (31 - l.length)) := by
      rw [show 32 - (l.length + 1) = 31 - l.length from by omega]
      simp only [num, Nat.add_mul]
      cases x with
      | false => simp
      | true =>
        rw [if_pos rfl, if_pos rfl, Nat.one_mul, ← Nat.pow_add, show l.length + (31 - l.length) = 31 from by omega, top_xor _ h1]
    show fold (fbit r x) l = Tn (l.length + 1) _
    rw [ih _ (by omega) (fbit_lt r x hr), List.length_cons, h2, Tn_succ', ← Nat.xor_assoc, T_xor _ _ (xor_lt _ _ hr (bitv_lt x)) (by omega), T_small _ h1]
    unfold fbit
    congr 2
    rw [show 32 - l.length = (31 - l.length) + 1 from by omega, Nat.pow_succ, ← Nat.mul_assoc, Nat.mul_comm 2]
theorem crc_sum (r V : Nat) (hr : r < 4294967296) (hV : V < 4294967296) : crc r (sumB V) = Tn 32 (r ^^^ V) := by
  have hb : By (sumB V) := by
    intro b hb
    simp [sumB] at hb
    rcases hb with rfl | rfl | rfl | rfl <;> omega
  rw [crc_bits _ r hr hb, fold_num _ r (by simp [sumB, allBits, bits]) hr]
  have hl : (allBits (sumB V)).length = 32 := by simp [sumB, allBits, bits]
  have hn : num (allBits (sumB V)) = V := by
    unfold sumB
    simp only [allBits, List.flatMap_cons, List.flatMap_nil, List.append_nil, num_append]
    rw [num_bits _ (by omega), num_bits _ (by omega), num_bits _ (by omega), num_bits _ (by omega)]
    simp [bits]
    omega
  rw [hl, hn]
  simp
theorem check_crc (t : List Nat) (hb : By t) (h : checkB t = true) : crc ones t = Tn 32 ones := by
  unfold checkB at h
  simp only [Bool.and_eq_true, decide_eq_true_eq] at h
  obtain ⟨_, h⟩ := h
  obtain ⟨m, hm⟩ : ∃ m, t.take (t.length - 4) = m := ⟨_, rfl⟩
  have hbm : By m := by rw [← hm]; exact by_take hb _
  rw [hm] at h
  rw [← h]
  unfold putV
  have hc := crc_lt m ones (by decide) hbm
  rw [crc_append, crc_sum _ _ hc (ofV_lt m), ofV_xor m hbm, Nat.xor_comm ones, ← Nat.xor_assoc, Nat.xor_self, Nat.zero_xor]
/-! ### Bits of bytes, by their places. -/
def bitAt (t : List Nat) (j : Nat) : Bool := (t.getD (j / 8) 0).testBit (7 - j % 8)
theorem bits_at (b j : Nat) (h : j < 8) : (bits b)[j]? = some (b.testBit (7 - j)) := by
  match j, h with
  | 0, _ => rfl
  | 1, _ => rfl
  | 2, _ => rfl
  | 3, _ => rfl
  | 4, _ => rfl
  | 5, _ => rfl
  | 6, _ => rfl
  | 7, _ => rfl
theorem bits_len (b : Nat) : (bits b).length = 8 := rfl
theorem allBits_at (t : List Nat) : ∀ j, j < 8 * t.length → (allBits t)[j]? = some (bitAt t j) := by
  induction t with
  | nil => intro j h; simp at h
  | cons b l ih =>
    intro j h
    simp only [List.length_cons] at h
    rw [allBits_cons, List.getElem?_append, bits_len]
    unfold bitAt
    by_cases hj : j < 8
    · rw [if_pos hj, bits_at b j hj, show j / 8 = 0 from by omega, show j % 8 = j from by omega]
      rfl
    · rw [if_neg hj, ih (j - 8) (by omega)]
      unfold bitAt
      obtain ⟨q, hq⟩ : ∃ q, j / 8 = q + 1 := ⟨j / 8 - 1, by omega⟩
      rw [hq, show (j - 8) / 8 = q from by omega, show (j - 8) % 8 = j % 8 from by omega]
      rfl
/-- A bit turned. -/
def turn (t : List Nat) (p : Nat) : List Nat := t.set (p / 8) (t.getD (p / 8) 0 ^^^ 128 / 2 ^ (p % 8))
theorem turn_len (t : List Nat) (p : Nat) : (turn t p).length = t.length := by unfold turn; simp
theorem mask (k : Nat) (h : k < 8) : 128 / 2 ^ k = 2 ^ (7 - k) := by
  match k, h with
  | 0, _ => rfl
  | 1, _ => rfl
  | 2, _ => rfl
  | 3, _ => rfl
  | 4, _ => rfl
  | 5, _ => rfl
  | 6, _ => rfl
  | 7, _ => rfl
theorem turn_at (t : List Nat) (p j : Nat) (hp : p < 8 * t.length) : bitAt (turn t p) j = (bitAt t j ^^ decide (j = p)) := by
  unfold bitAt turn
  simp only [List.getD_eq_getElem?_getD, List.getElem?_set]
  by_cases h : p / 8 = j / 8
  · rw [if_pos h, if_pos (by omega)]
    simp only [Option.getD_some, h]
    rw [Nat.testBit_xor, mask _ (by omega), Nat.testBit_two_pow]
    congr 1
    rw [decide_eq_decide]
    omega
  · rw [if_neg h, decide_eq_false (by omega), Bool.xor_false]
theorem turn_by {t : List Nat} (h : By t) (p : Nat) : By (turn t p) := by
  intro b hb
  unfold turn at hb
  rcases List.mem_or_eq_of_mem_set hb with hb | rfl
  · exact h b hb
  · refine Nat.xor_lt_two_pow (n := 8) ?_ ?_
    · rw [List.getD_eq_getElem?_getD]
      cases hg : t[p / 8]? with
      | none => simp
      | some v => exact h v (List.mem_of_getElem? hg)
    · exact Nat.lt_of_le_of_lt (Nat.div_le_self _ _) (by decide)
/-- The bytes with the first k bits of the burst turned. -/
def burst (s : List Nat) (bt first : Nat) : Nat → List Nat
  | 0 => s
  | k + 1 => if bt.testBit (31 - k) then turn (burst s bt first k) (first + k) else burst s bt first k
theorem burst_len (s : List Nat) (bt first k : Nat) : (burst s bt first k).length = s.length := by
  induction k with
  | zero => rfl
  | succ k ih => unfold burst; split <;> simp [turn_len, ih]
theorem burst_by {s : List Nat} (h : By s) (bt first k : Nat) : By (burst s bt first k) := by
  induction k with
  | zero => exact h
  | succ k ih =>
    unfold burst
    split
    · exact turn_by ih _
    · exact ih
theorem burst_at (s : List Nat) (bt first k j : Nat) (h : first + k ≤ 8 * s.length) : bitAt (burst s bt first k) j = (bitAt s j ^^ (decide (first ≤ j ∧ j < first + k) && bt.testBit (31 - (j - first)))) := by
  induction k with
  | zero => rw [decide_eq_false (by omega)]; simp [burst]
  | succ k ih =>
    have ih := ih (by omega)
    unfold burst
    by_cases hj : j = first + k
    · subst hj
      rw [decide_eq_true (by omega), Bool.true_and, show first + k - first = k from by omega]
      rw [decide_eq_false (by omega), Bool.false_and, Bool.xor_false] at ih
      split
      · rename_i hb
        rw [turn_at _ _ _ (by rw [burst_len]; omega), ih, hb, decide_eq_true rfl]
      · rename_i hb
        rw [ih, Bool.eq_false_iff.2 hb]
        simp
    · have e : decide (first ≤ j ∧ j < first + (k + 1)) = decide (first ≤ j ∧ j < first + k) := by rw [decide_eq_decide]; omega
      rw [e, ← ih]
      split
      · rw [turn_at _ _ _ (by rw [burst_len]; omega), decide_eq_false hj, Bool.xor_false]
      · rfl
theorem burst_law (bs : List Nat) (bt first : Nat) (hb : By bs) (hbt : bt < 4294967296) (h0 : bt ≠ 0) (hf : first + 32 ≤ 8 * (bs.length + 4)) : checkB (burst (putV bs) bt first 32) = false := by
  have hs : By (putV bs) := putV_by hb
  have hl : (putV bs).length = bs.length + 4 := putV_len bs
  obtain ⟨s, hse⟩ : ∃ s, putV bs = s := ⟨_, rfl⟩
  have c1 := check_crc _ hs (check_put bs)
  rw [hse] at hs hl c1 ⊢
  cases hc : checkB (burst s bt first 32) with
  | false => rfl
  | true =>
    exfalso
    have c2 := check_crc _ (burst_by hs bt first 32) hc
    rw [crc_bits _ _ (by decide) (burst_by hs bt first 32)] at c2
    rw [crc_bits _ _ (by decide) hs] at c1
    obtain ⟨E, hE⟩ : ∃ E, (List.replicate first false ++ (List.range 32).map (fun i => bt.testBit (31 - i)) ++ List.replicate (8 * s.length - (first + 32)) false : List Bool) = E := ⟨_, rfl⟩
    have hEl : E.length = 8 * s.length := by rw [← hE]; simp; omega
    have hz : List.zipWith (· ^^ ·) (allBits s) E = allBits (burst s bt first 32) := by
      apply List.ext_getElem?
      intro j
      rw [List.getElem?_zipWith]
      by_cases hj : j < 8 * s.length
      · rw [allBits_at s j hj, allBits_at _ j (by rw [burst_len]; exact hj), burst_at s bt first 32 j (by omega), ← hE]
        have e : (List.replicate first false ++ (List.range 32).map (fun i => bt.testBit (31 - i)) ++ List.replicate (8 * s.length - (first + 32)) false : List Bool)[j]? = some (decide (first ≤ j ∧ j < first + 32) && bt.testBit (31 - (j - first))) := by
          rw [List.append_assoc, List.getElem?_append, List.length_replicate]
          by_cases h1 : j < first
          · rw [if_pos h1, List.getElem?_replicate, if_pos h1, decide_eq_false (by omega)]; rfl
          · rw [if_neg h1, List.getElem?_append]
            simp only [List.length_map, List.length_range]
            by_cases h2 : j - first < 32
            · rw [if_pos h2, List.getElem?_map, List.getElem?_range h2, decide_eq_true (by omega)]; rfl
            · rw [if_neg h2, List.getElem?_replicate, if_pos (by omega), decide_eq_false (by omega)]; rfl
        rw [e]
      · rw [List.getElem?_eq_none (by rw [allBits_len]; omega), List.getElem?_eq_none (l := allBits (burst s bt first 32)) (by rw [allBits_len, burst_len]; omega)]
    have h1 := fold_xor (allBits s) E ones 0 (by rw [allBits_len, hEl]) (by decide) (by decide)
    rw [Nat.xor_zero, hz, c1, c2] at h1
    have h2 : fold 0 E = 0 := by
      have := congrArg (fun x => Tn 32 ones ^^^ x) h1
      simp only [← Nat.xor_assoc, Nat.xor_self, Nat.zero_xor] at this
      exact this.symm
    rw [← hE, fold_append, fold_append, fold_zeros, fold_zeros] at h2
    have hT0 : Tn first 0 = 0 := by
      have : ∀ k, Tn k 0 = 0 := fun k => by
        induction k with
        | zero => rfl
        | succ k ih => show T (Tn k 0) = 0; rw [ih]; rfl
      exact this first
    rw [hT0] at h2
    have h3 := Tn_zero _ _ (fold_lt _ 0 (by decide)) h2
    rw [fold_num _ 0 (by simp) (by decide)] at h3
    simp only [List.length_map, List.length_range, Nat.zero_xor, Nat.sub_self, Nat.pow_zero, Nat.mul_one] at h3
    have h4 := Tn_zero _ _ (by
      have := num_lt ((List.range 32).map (fun i => bt.testBit (31 - i)))
      simpa using this) h3
    have h5 := num_zero _ h4
    apply h0
    apply Nat.eq_of_testBit_eq
    intro j
    rw [Nat.zero_testBit]
    by_cases hj : j < 32
    · have := h5 (bt.testBit (31 - (31 - j))) (List.mem_map.2 ⟨31 - j, by simp; omega, rfl⟩)
      rwa [show 31 - (31 - j) = j from by omega] at this
    · exact bit_ge hbt (by omega)
end Sm
end Go.Proofs.Ytlbnikmaafccnaa
