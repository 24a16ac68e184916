/- The sum of layer 2, in plain numbers: a register of 32 bits that a byte is fed into; bit by bit; the chapter's long division comes to the same; what is linear in it. -/
namespace Go.Proofs.Ytlbnikmaafccnaa
set_option linter.unusedVariables false
namespace Sm
def poly : Nat := 79764919
/-- One step of the register. -/
def T (r : Nat) : Nat := if 2147483648 ≤ r then (2 * r % 4294967296) ^^^ poly else 2 * r
def Tn : Nat → Nat → Nat
  | 0, r => r
  | k + 1, r => T (Tn k r)
def feed (r b : Nat) : Nat := Tn 8 (r ^^^ (b * 16777216))
def crc (r : Nat) (bs : List Nat) : Nat := bs.foldl feed r
def ones : Nat := 4294967295
def ofV (bs : List Nat) : Nat := ones - crc ones bs
theorem top_iff (r : Nat) (h : r < 4294967296) : r.testBit 31 = decide (2147483648 ≤ r) := by
  rw [Nat.testBit_eq_decide_div_mod_eq]
  by_cases h1 : 2147483648 ≤ r
  · have : r / 2 ^ 31 = 1 := by omega
    rw [this]; simp [h1]
  · have : r / 2 ^ 31 = 0 := by omega
    rw [this]; simp [h1]
theorem lt_of_bits {n : Nat} (h : ∀ j, 32 ≤ j → n.testBit j = false) : n < 4294967296 := Nat.lt_pow_two_of_testBit (n := 32) n (fun j hj => h j hj)
theorem bit_ge {n j : Nat} (h : n < 4294967296) (hj : 32 ≤ j) : n.testBit j = false := Nat.testBit_lt_two_pow (Nat.lt_of_lt_of_le h (by
  have := Nat.pow_le_pow_right (n := 2) (by omega) hj
  simpa using this))
theorem T_bit (r j : Nat) (h : r < 4294967296) (hj : j < 32) : (T r).testBit j = ((decide (0 < j) && r.testBit (j - 1)) ^^ (r.testBit 31 && poly.testBit j)) := by
  have h2 : (2 * r).testBit j = (decide (0 < j) && r.testBit (j - 1)) := by
    cases j with
    | zero => simp
    | succ j => rw [show 2 * r = r * 2 ^ 1 from by omega, Nat.testBit_mul_two_pow]; simp
  unfold T
  rw [top_iff r h]
  split
  · rename_i h1
    rw [Nat.testBit_xor, show 4294967296 = 2 ^ 32 from rfl, Nat.testBit_mod_two_pow, h2]
    simp [hj, h1]
  · rename_i h1
    rw [h2]
    simp [h1]
theorem poly_lt : poly < 4294967296 := by decide
theorem T_lt (r : Nat) (h : r < 4294967296) : T r < 4294967296 := by
  unfold T
  split
  · exact Nat.xor_lt_two_pow (n := 32) (Nat.mod_lt _ (by decide)) poly_lt
  · omega
theorem Tn_lt (k r : Nat) (h : r < 4294967296) : Tn k r < 4294967296 := by
  induction k with
  | zero => exact h
  | succ k ih => exact T_lt _ ih
theorem xor_lt (a b : Nat) (ha : a < 4294967296) (hb : b < 4294967296) : a ^^^ b < 4294967296 := Nat.xor_lt_two_pow (n := 32) ha hb
theorem bits_ext {a b : Nat} (ha : a < 4294967296) (hb : b < 4294967296) (h : ∀ j, j < 32 → a.testBit j = b.testBit j) : a = b := by
  apply Nat.eq_of_testBit_eq
  intro j
  by_cases hj : j < 32
  · exact h j hj
  · rw [bit_ge ha (by omega), bit_ge hb (by omega)]
theorem T_xor (a b : Nat) (ha : a < 4294967296) (hb : b < 4294967296) : T (a ^^^ b) = T a ^^^ T b := by
  refine bits_ext (T_lt _ (xor_lt a b ha hb)) (xor_lt _ _ (T_lt a ha) (T_lt b hb)) fun j hj => ?_
  rw [T_bit _ _ (xor_lt a b ha hb) hj, Nat.testBit_xor, Nat.testBit_xor, Nat.testBit_xor, T_bit a j ha hj, T_bit b j hb hj]
  generalize a.testBit (j - 1) = p; generalize b.testBit (j - 1) = q; generalize a.testBit 31 = s; generalize b.testBit 31 = t; generalize poly.testBit j = u; generalize decide (0 < j) = v
  cases p <;> cases q <;> cases s <;> cases t <;> cases u <;> cases v <;> rfl
theorem Tn_xor (k a b : Nat) (ha : a < 4294967296) (hb : b < 4294967296) : Tn k (a ^^^ b) = Tn k a ^^^ Tn k b := by
  induction k with
  | zero => rfl
  | succ k ih => show T (Tn k (a ^^^ b)) = _; rw [ih, T_xor _ _ (Tn_lt k a ha) (Tn_lt k b hb)]; rfl
theorem T_zero (r : Nat) (h : r < 4294967296) (h0 : T r = 0) : r = 0 := by
  have h1 := T_bit r 0 h (by decide)
  rw [h0] at h1
  have hp : poly.testBit 0 = true := by decide
  rw [hp] at h1
  have h31 : r.testBit 31 = false := by
    rw [Nat.zero_testBit, Bool.and_true, show decide (0 < 0) = false from rfl, Bool.false_and, Bool.false_xor] at h1
    exact h1.symm
  rw [top_iff r h] at h31
  unfold T at h0
  have h32 : ¬ 2147483648 ≤ r := of_decide_eq_false h31
  rw [if_neg h32] at h0
  omega
theorem Tn_zero (k r : Nat) (h : r < 4294967296) (h0 : Tn k r = 0) : r = 0 := by
  induction k with
  | zero => exact h0
  | succ k ih => exact ih (T_zero _ (Tn_lt k r h) h0)
theorem feed_lt (r b : Nat) (h : r < 4294967296) (hb : b < 256) : feed r b < 4294967296 := Tn_lt 8 _ (xor_lt _ _ h (by omega))
theorem crc_cons (r b : Nat) (l : List Nat) : crc r (b :: l) = crc (feed r b) l := by simp only [crc, List.foldl_cons]
theorem crc_lt (bs : List Nat) : ∀ r, r < 4294967296 → (∀ b ∈ bs, b < 256) → crc r bs < 4294967296 := by
  induction bs with
  | nil => intro r h _; exact h
  | cons b l ih => intro r h hb; rw [crc_cons]; exact ih _ (feed_lt r b h (hb b (by simp))) (fun x hx => hb x (by simp [hx]))
theorem crc_append (r : Nat) (a b : List Nat) : crc r (a ++ b) = crc (crc r a) b := by simp [crc]
theorem ofV_lt (bs : List Nat) : ofV bs < 4294967296 := by unfold ofV ones; omega
/-! ### Bit by bit. -/
def fbit (r : Nat) (x : Bool) : Nat := T (r ^^^ (if x then 2147483648 else 0))
def fold (r : Nat) (xs : List Bool) : Nat := xs.foldl fbit r
def bits (b : Nat) : List Bool := [b.testBit 7, b.testBit 6, b.testBit 5, b.testBit 4, b.testBit 3, b.testBit 2, b.testBit 1, b.testBit 0]
def allBits (bs : List Nat) : List Bool := bs.flatMap bits
theorem bitv_lt (x : Bool) : (if x then 2147483648 else 0) < 4294967296 := by cases x <;> decide
theorem fbit_lt (r : Nat) (x : Bool) (h : r < 4294967296) : fbit r x < 4294967296 := T_lt _ (xor_lt _ _ h (bitv_lt x))
theorem fold_lt (xs : List Bool) : ∀ r, r < 4294967296 → fold r xs < 4294967296 := by
  induction xs with
  | nil => intro r h; exact h
  | cons x l ih => intro r h; exact ih _ (fbit_lt r x h)
theorem fbit_xor (a b : Nat) (x y : Bool) (ha : a < 4294967296) (hb : b < 4294967296) : fbit (a ^^^ b) (x ^^ y) = fbit a x ^^^ fbit b y := by
  unfold fbit
  rw [← T_xor _ _ (xor_lt _ _ ha (bitv_lt x)) (xor_lt _ _ hb (bitv_lt y))]
  congr 1
  apply Nat.eq_of_testBit_eq
  intro j
  cases x <;> cases y <;> simp [Nat.testBit_xor] <;> (generalize a.testBit j = p; generalize b.testBit j = q; generalize Nat.testBit 2147483648 j = s; cases p <;> cases q <;> cases s <;> rfl)
theorem fold_xor (xs : List Bool) : ∀ (ys : List Bool) (a b : Nat), ys.length = xs.length → a < 4294967296 → b < 4294967296 → fold (a ^^^ b) (List.zipWith (· ^^ ·) xs ys) = fold a xs ^^^ fold b ys := by
  induction xs with
  | nil => intro ys a b h _ _; cases ys with
    | nil => rfl
    | cons _ _ => simp at h
  | cons x l ih => intro ys a b h ha hb; cases ys with
    | nil => simp at h
    | cons y r =>
      show fold (fbit (a ^^^ b) (x ^^ y)) _ = _
      rw [fbit_xor a b x y ha hb]
      exact ih r _ _ (by simpa using h) (fbit_lt a x ha) (fbit_lt b y hb)
theorem fold_append (r : Nat) (a b : List Bool) : fold r (a ++ b) = fold (fold r a) b := by simp [fold]
theorem fold_zeros (k r : Nat) : fold r (List.replicate k false) = Tn k r := by
  induction k generalizing r with
  | zero => rfl
  | succ k ih =>
    have hs : ∀ m s, Tn m (T s) = T (Tn m s) := fun m => by
      induction m with
      | zero => intro s; rfl
      | succ m ih => intro s; show T (Tn m (T s)) = T (T (Tn m s)); rw [ih]
    show fold (fbit r false) (List.replicate k false) = _
    rw [ih]
    have : fbit r false = T r := by simp [fbit]
    rw [this, hs]
    rfl
theorem byte_zero : ∀ b, b < 256 → fold 0 (bits b) = Tn 8 (b * 16777216) := by decide +kernel
theorem feed_bits (r b : Nat) (h : r < 4294967296) (hb : b < 256) : feed r b = fold r (bits b) := by
  have h1 := fold_xor (List.replicate 8 false) (bits b) r 0 (by rfl) h (by decide)
  have h2 : List.zipWith (· ^^ ·) (List.replicate 8 false) (bits b) = bits b := by simp [bits, List.replicate]
  rw [h2, Nat.xor_zero, fold_zeros, byte_zero b hb] at h1
  unfold feed
  rw [Tn_xor 8 r _ h (by omega), h1]
theorem allBits_cons (b : Nat) (l : List Nat) : allBits (b :: l) = bits b ++ allBits l := by simp only [allBits, List.flatMap_cons]
theorem crc_bits (bs : List Nat) : ∀ r, r < 4294967296 → (∀ b ∈ bs, b < 256) → crc r bs = fold r (allBits bs) := by
  induction bs with
  | nil => intro r _ _; rfl
  | cons b l ih =>
    intro r h hb
    have h0 := hb b (by simp)
    rw [crc_cons, allBits_cons, fold_append, ih _ (feed_lt r b h h0) (fun x hx => hb x (by simp [hx])), feed_bits r b h h0]
end Sm
end Go.Proofs.Ytlbnikmaafccnaa
