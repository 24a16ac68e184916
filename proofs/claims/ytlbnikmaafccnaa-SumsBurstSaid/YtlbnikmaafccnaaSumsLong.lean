/- The chapter's long division over a list of bits comes to the register's sum. -/
import Derived.Test.YtlbnikmaafccnaaSumsPlain
namespace Go.Proofs.Ytlbnikmaafccnaa
set_option linter.unusedVariables false
namespace Sm
def powers : List Nat := [26, 23, 22, 16, 12, 11, 10, 8, 7, 5, 4, 2, 1, 0]
def flip (L : List Bool) (j : Nat) : List Bool := L.set j (!(L.getD j false))
def flips (L : List Bool) (i : Nat) : Nat → List Bool
  | 0 => L
  | k + 1 => flip (flips L i k) (i + 32 - powers.getD k 0)
def stepL (L : List Bool) (i : Nat) : List Bool := if L.getD i false then flips (L.set i false) i 14 else L
def longD (L : List Bool) : Nat → List Bool
  | 0 => L
  | k + 1 => stepL (longD L k) k
def inv (L : List Bool) : Nat → List Bool
  | 0 => L
  | k + 1 => flip (inv L k) k
def numV (L : List Bool) (p : Nat) : Nat → Nat
  | 0 => 0
  | t + 1 => 2 * numV L p t + (if L.getD (p + t) false then 0 else 1)
def msg (bs : List Nat) : List Bool := allBits bs ++ List.replicate 32 false
theorem flip_len (L : List Bool) (j : Nat) : (flip L j).length = L.length := by simp [flip]
theorem flip_get (L : List Bool) (p j : Nat) (hp : p < L.length) : (flip L p).getD j false = (L.getD j false ^^ decide (j = p)) := by
  unfold flip
  rw [List.getD_eq_getElem?_getD, List.getElem?_set]
  by_cases h : p = j
  · subst h
    rw [if_pos rfl, if_pos hp]
    simp
  · rw [if_neg h, List.getD_eq_getElem?_getD]
    simp [show ¬ j = p from fun e => h e.symm]
theorem flips_len (L : List Bool) (i k : Nat) : (flips L i k).length = L.length := by
  induction k with
  | zero => rfl
  | succ k ih => rw [flips, flip_len, ih]
def pw (t : Nat) : Nat → Bool
  | 0 => false
  | k + 1 => pw t k ^^ decide (powers.getD k 0 = t)
theorem powers_le (k : Nat) : powers.getD k 0 ≤ 26 := by
  rcases Nat.lt_or_ge k 14 with h | h
  · revert h; revert k; decide
  · rw [List.getD_eq_getElem?_getD, List.getElem?_eq_none (by simpa [powers] using h)]; simp
theorem flips_get (L : List Bool) (i k j : Nat) (hi : i + 32 < L.length) : (flips L i k).getD j false = (L.getD j false ^^ (decide (j ≤ i + 32) && pw (i + 32 - j) k)) := by
  induction k with
  | zero => simp [flips, pw]
  | succ k ih =>
    have hp := powers_le k
    rw [flips, flip_get _ _ _ (by rw [flips_len]; omega), ih, pw]
    by_cases h1 : j ≤ i + 32
    · have e : decide (j = i + 32 - powers.getD k 0) = decide (powers.getD k 0 = i + 32 - j) := by
        congr 1
        apply propext
        omega
      rw [e]
      simp [h1]
    · have e : decide (j = i + 32 - powers.getD k 0) = false := decide_eq_false (by omega)
      rw [e]
      simp [h1]
theorem pw_poly : ∀ t, t < 33 → pw t 14 = (decide (t < 32) && poly.testBit t) := by decide +kernel
theorem longD_len (L : List Bool) (k : Nat) : (longD L k).length = L.length := by
  induction k with
  | zero => rfl
  | succ k ih =>
    rw [longD, stepL]
    split
    · rw [flips_len, List.length_set, ih]
    · exact ih
theorem inv_len (L : List Bool) (k : Nat) : (inv L k).length = L.length := by
  induction k with
  | zero => rfl
  | succ k ih => rw [inv, flip_len, ih]
theorem inv_get (L : List Bool) (k j : Nat) (hk : k ≤ L.length) : (inv L k).getD j false = (L.getD j false ^^ decide (j < k)) := by
  induction k with
  | zero => simp [inv]
  | succ k ih =>
    rw [inv, flip_get _ _ _ (by rw [inv_len]; omega), ih (by omega)]
    by_cases h1 : j < k
    · simp [h1, show j < k + 1 from by omega, show ¬ j = k from by omega]
    · by_cases h2 : j = k
      · simp [h2]
      · simp [h1, h2, show ¬ j < k + 1 from by omega]
theorem allBits_len (bs : List Nat) : (allBits bs).length = 8 * bs.length := by
  induction bs with
  | nil => rfl
  | cons b l ih => rw [allBits_cons, List.length_append, ih]; simp [bits]; omega
theorem msg_len (bs : List Nat) : (msg bs).length = 8 * bs.length + 32 := by rw [msg, List.length_append, allBits_len, List.length_replicate]
theorem msg_end (bs : List Nat) (j : Nat) (hj : 8 * bs.length ≤ j) : (msg bs).getD j false = false := by
  rw [msg, List.getD_eq_getElem?_getD, List.getElem?_append_right (by rw [allBits_len]; exact hj), List.getElem?_replicate]
  split <;> rfl
theorem xbit (a b c : Bool) : ((a ^^ b) ^^ c) = ((a ^^ c) ^^ b) := by cases a <;> cases b <;> cases c <;> rfl
theorem fold_snoc (r : Nat) (xs : List Bool) (i : Nat) (h : i < xs.length) : fold r (xs.take (i + 1)) = fbit (fold r (xs.take i)) (xs.getD i false) := by
  rw [List.take_succ_eq_append_getElem h, fold_append, List.getD_eq_getElem?_getD, List.getElem?_eq_getElem h]
  rfl
theorem top_bit (j : Nat) (hj : j < 32) : Nat.testBit 2147483648 j = decide (j = 31) := by revert hj; revert j; decide
theorem fbit_u (r : Nat) (x : Bool) (j : Nat) (hj : j < 32) : (r ^^^ (if x then 2147483648 else 0)).testBit j = (r.testBit j ^^ (x && decide (j = 31))) := by
  rw [Nat.testBit_xor]
  cases x with
  | false => simp
  | true => simp [top_bit j hj]
/-- What the division has made of the list when it has come to place i. -/
theorem long_inv (bs : List Nat) (hb : ∀ b ∈ bs, b < 256) : ∀ (i : Nat), i ≤ 8 * bs.length → ∀ j, j < 8 * bs.length + 32 →
    (longD (inv (msg bs) 32) i).getD j false = if j < i then false else if j < i + 32 then ((fold ones ((allBits bs).take i)).testBit (31 - (j - i)) ^^ (msg bs).getD j false) else (msg bs).getD j false := by
  intro i
  induction i with
  | zero =>
    intro _ j hj
    rw [longD, inv_get _ _ _ (by rw [msg_len]; omega), if_neg (by omega)]
    show _ = if j < 0 + 32 then (Nat.testBit ones (31 - (j - 0)) ^^ _) else _
    by_cases h : j < 32
    · have : Nat.testBit ones (31 - (j - 0)) = true := by
        have : ∀ t, t < 32 → Nat.testBit ones t = true := by decide
        exact this _ (by omega)
      rw [this, if_pos (by omega)]
      simp [h]
    · rw [if_neg (by omega)]
      simp [h]
  | succ i ih =>
    intro hi j hj
    have ih := ih (by omega)
    have hr : fold ones ((allBits bs).take i) < 4294967296 := fold_lt _ _ (by decide)
    have hmi : (msg bs).getD i false = (allBits bs).getD i false := by
      rw [msg, List.getD_eq_getElem?_getD, List.getElem?_append_left (by rw [allBits_len]; omega), ← List.getD_eq_getElem?_getD]
    have hs := fold_snoc ones (allBits bs) i (by rw [allBits_len]; omega)
    rw [← hmi] at hs
    generalize hR : fold ones ((allBits bs).take i) = r at ih hs hr
    have hu : (r ^^^ (if (msg bs).getD i false then 2147483648 else 0)) < 4294967296 := xor_lt _ _ hr (bitv_lt _)
    have htop : (r ^^^ (if (msg bs).getD i false then 2147483648 else 0)).testBit 31 = (longD (inv (msg bs) 32) i).getD i false := by
      rw [fbit_u _ _ _ (by decide), ih i (by omega), if_neg (by omega), if_pos (by omega)]
      simp
    have hT : ∀ t, t < 32 → (fbit r ((msg bs).getD i false)).testBit t = ((decide (0 < t) && (r ^^^ (if (msg bs).getD i false then 2147483648 else 0)).testBit (t - 1)) ^^ ((longD (inv (msg bs) 32) i).getD i false && poly.testBit t)) := fun t ht => by
      rw [fbit, T_bit _ t hu ht, htop]
    have hlen : (longD (inv (msg bs) 32) i).length = 8 * bs.length + 32 := by rw [longD_len, inv_len, msg_len]
    have hstep : (longD (inv (msg bs) 32) (i + 1)).getD j false = if j = i then false else ((longD (inv (msg bs) 32) i).getD j false ^^ ((longD (inv (msg bs) 32) i).getD i false && (decide (j ≤ i + 32) && pw (i + 32 - j) 14))) := by
      rw [longD, stepL]
      cases hc : (longD (inv (msg bs) 32) i).getD i false with
      | false =>
        rw [if_neg (by simp)]
        by_cases h : j = i
        · rw [if_pos h, h, hc]
        · rw [if_neg h]; simp
      | true =>
        rw [if_pos rfl, flips_get _ _ _ _ (by rw [List.length_set, hlen]; omega), List.getD_eq_getElem?_getD, List.getElem?_set]
        by_cases h : j = i
        · subst h
          rw [if_pos rfl, if_pos rfl, if_pos (by rw [hlen]; omega), show j + 32 - j = 32 from by omega, pw_poly 32 (by omega)]
          simp
        · rw [if_neg (fun e => h e.symm), if_neg h, ← List.getD_eq_getElem?_getD]
          simp
    rw [hstep, hs]
    by_cases h0 : j < i
    · rw [if_neg (by omega), if_pos (by omega), ih j hj, if_pos h0]
      have hd : pw (i + 32 - j) 14 = false := by
        have hn : ∀ k, pw (i + 32 - j) k = false := fun k => by
          induction k with
          | zero => rfl
          | succ k ihk => rw [pw, ihk, decide_eq_false (by have := powers_le k; omega)]; rfl
        exact hn 14
      rw [hd]; simp
    · by_cases h1 : j = i
      · rw [if_pos h1, if_pos (by omega)]
      · rw [if_neg h1, if_neg (by omega)]
        by_cases h2 : j < i + 32
        · rw [if_pos (by omega), hT _ (by omega), ih j hj, if_neg h0, if_pos h2, fbit_u _ _ _ (by omega), pw_poly _ (by omega)]
          have e1 : 31 - (j - (i + 1)) = i + 32 - j := by omega
          have e2 : 31 - (j - i) = i + 32 - j - 1 := by omega
          have e3 : decide (i + 32 - j - 1 = 31) = false := decide_eq_false (by omega)
          have e4 : decide (0 < i + 32 - j) = true := decide_eq_true (by omega)
          have e5 : decide (j ≤ i + 32) = true := decide_eq_true (by omega)
          have e6 : decide (i + 32 - j < 32) = true := decide_eq_true (by omega)
          rw [e1, e2, e3, e4, e5, e6]
          simp only [Bool.and_false, Bool.xor_false, Bool.true_and]
          exact xbit _ _ _
        · by_cases h3 : j = i + 32
          · subst h3
            rw [if_pos (by omega), hT _ (by omega), ih _ hj, if_neg (by omega), if_neg (by omega), show 31 - (i + 32 - (i + 1)) = 0 from by omega, show i + 32 - (i + 32) = 0 from by omega, pw_poly 0 (by omega)]
            simp [Bool.xor_comm]
          · rw [if_neg (by omega), ih j hj, if_neg h0, if_neg (by omega), decide_eq_false (show ¬ j ≤ i + 32 by omega)]
            simp
theorem num_div (L : List Bool) (p r : Nat) (hr : r < 4294967296) (h : ∀ t, t < 32 → L.getD (p + t) false = r.testBit (31 - t)) : ∀ t, t ≤ 32 → numV L p t = (ones - r) / 2 ^ (32 - t) := by
  intro t
  induction t with
  | zero => intro _; show 0 = _; rw [Nat.div_eq_of_lt]; unfold ones; omega
  | succ t ih =>
    intro ht
    rw [numV, ih (by omega), h t (by omega)]
    have hb : (ones - r).testBit (31 - t) = !r.testBit (31 - t) := by
      have := Nat.testBit_two_pow_sub_succ (n := 32) (x := r) hr (31 - t)
      rw [show 2 ^ 32 - (r + 1) = ones - r from by unfold ones; omega] at this
      rw [this]
      simp [show 31 - t < 32 from by omega]
    have e : 32 - t = (32 - (t + 1)) + 1 := by omega
    have hk : 32 - (t + 1) = 31 - t := by omega
    rw [e, hk, Nat.pow_succ, ← Nat.div_div_eq_div_mul]
    rw [Nat.testBit_eq_decide_div_mod_eq] at hb
    generalize (ones - r) / 2 ^ (31 - t) = q at hb ⊢
    cases hx : r.testBit (31 - t) with
    | false => rw [hx] at hb; simp at hb; simp; omega
    | true => rw [hx] at hb; simp at hb; simp; omega
/-- What the reference computes is the register's sum. -/
theorem long_of (bs : List Nat) (hb : ∀ b ∈ bs, b < 256) : numV (longD (inv (msg bs) 32) (8 * bs.length)) (8 * bs.length) 32 = ofV bs := by
  have hr : fold ones (allBits bs) < 4294967296 := fold_lt _ _ (by decide)
  have hL := long_inv bs hb (8 * bs.length) (Nat.le_refl _)
  rw [List.take_of_length_le (by rw [allBits_len]; exact Nat.le_refl _)] at hL
  rw [num_div _ _ (fold ones (allBits bs)) hr (fun t ht => by
    rw [hL _ (by omega), if_neg (by omega), if_pos (by omega), msg_end _ _ (by omega), show 8 * bs.length + t - 8 * bs.length = t from by omega, Bool.xor_false]) 32 (Nat.le_refl _)]
  unfold ofV
  rw [crc_bits bs ones (by decide) hb]
  simp
end Sm
end Go.Proofs.Ytlbnikmaafccnaa
