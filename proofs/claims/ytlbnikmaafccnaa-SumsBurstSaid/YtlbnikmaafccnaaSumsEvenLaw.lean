/- The sum of layer 2 is even: that of two lists of one length, bit by bit, is theirs, and that of as many noughts. -/
import Derived.Test.YtlbnikmaafccnaaSumsOf
namespace Go.Proofs.Ytlbnikmaafccnaa
set_option linter.unusedVariables false
namespace Sm
theorem xor4 (a b c d : Nat) : (a ^^^ b) ^^^ (c ^^^ d) = (a ^^^ c) ^^^ (b ^^^ d) := by
  apply Nat.eq_of_testBit_eq
  intro j
  simp only [Nat.testBit_xor]
  generalize a.testBit j = p; generalize b.testBit j = q; generalize c.testBit j = r; generalize d.testBit j = s
  cases p <;> cases q <;> cases r <;> cases s <;> rfl
theorem shl_xor (a b : Nat) : (a ^^^ b) * 16777216 = a * 16777216 ^^^ b * 16777216 := by
  apply Nat.eq_of_testBit_eq
  intro j
  rw [Nat.testBit_xor, show 16777216 = 2 ^ 24 from rfl, Nat.testBit_mul_two_pow, Nat.testBit_mul_two_pow, Nat.testBit_mul_two_pow, Nat.testBit_xor]
  cases decide (24 ≤ j) <;> simp
theorem feed_xor (r s a b : Nat) (hr : r < 4294967296) (hs : s < 4294967296) (ha : a < 256) (hb : b < 256) : feed (r ^^^ s) (a ^^^ b) = feed r a ^^^ feed s b := by
  unfold feed
  rw [shl_xor, xor4, Tn_xor 8 _ _ (xor_lt _ _ hr (by omega)) (xor_lt _ _ hs (by omega))]
theorem crc_xor (xs : List Nat) : ∀ (ys : List Nat) (r s : Nat), xs.length = ys.length → r < 4294967296 → s < 4294967296 → (∀ b ∈ xs, b < 256) → (∀ b ∈ ys, b < 256) → crc (r ^^^ s) (List.zipWith (· ^^^ ·) xs ys) = crc r xs ^^^ crc s ys := by
  induction xs with
  | nil => intro ys r s h _ _ _ _; cases ys with
    | nil => simp only [List.zipWith_nil_left, crc, List.foldl_nil]
    | cons _ _ => simp at h
  | cons a l ih => intro ys r s h hr hs hx hy; cases ys with
    | nil => simp at h
    | cons b m =>
      have ha := hx a (by simp)
      have hb := hy b (by simp)
      rw [List.zipWith_cons_cons, crc_cons, crc_cons, crc_cons, feed_xor r s a b hr hs ha hb]
      exact ih m _ _ (by simpa using h) (feed_lt r a hr ha) (feed_lt s b hs hb) (fun x h => hx x (by simp [h])) (fun x h => hy x (by simp [h]))
theorem zip_lt (xs : List Nat) : ∀ (ys : List Nat), (∀ b ∈ xs, b < 256) → (∀ b ∈ ys, b < 256) → ∀ b ∈ List.zipWith (· ^^^ ·) xs ys, b < 256 := by
  induction xs with
  | nil => intro ys _ _ b hb; simp at hb
  | cons a l ih => intro ys hx hy b hb; cases ys with
    | nil => simp at hb
    | cons c m =>
      rw [List.zipWith_cons_cons] at hb
      rcases List.mem_cons.1 hb with rfl | hb
      · exact Nat.xor_lt_two_pow (n := 8) (hx a (by simp)) (hy c (by simp))
      · exact ih m (fun x h => hx x (by simp [h])) (fun x h => hy x (by simp [h])) b hb
theorem ofV_xor (bs : List Nat) (h : ∀ b ∈ bs, b < 256) : ofV bs = ones ^^^ crc ones bs := (ones_xor _ (crc_lt bs ones (by decide) h)).symm
theorem zip_zero (xs : List Nat) : List.zipWith (· ^^^ ·) xs (List.replicate xs.length 0) = xs := by
  induction xs with
  | nil => rfl
  | cons a l ih => rw [List.length_cons, List.replicate_succ, List.zipWith_cons_cons, ih, Nat.xor_zero]
theorem even_law (xs ys : List Nat) (h : xs.length = ys.length) (hx : ∀ b ∈ xs, b < 256) (hy : ∀ b ∈ ys, b < 256) :
    ofV (List.zipWith (· ^^^ ·) xs ys) = (ofV xs ^^^ ofV ys) ^^^ ofV (List.replicate xs.length 0) := by
  have hz : ∀ b ∈ List.replicate xs.length 0, b < 256 := fun b hb => by rw [(List.mem_replicate.1 hb).2]; decide
  have ho : ones < 4294967296 := by decide
  have h1 := crc_xor xs ys ones ones h ho ho hx hy
  rw [Nat.xor_self] at h1
  have hl : (List.zipWith (· ^^^ ·) xs ys).length = xs.length := by simp; omega
  have h2 := crc_xor (List.zipWith (· ^^^ ·) xs ys) (List.replicate xs.length 0) 0 ones (by rw [hl, List.length_replicate]) (by decide) ho (zip_lt xs ys hx hy) hz
  have hzz : List.zipWith (· ^^^ ·) (List.zipWith (· ^^^ ·) xs ys) (List.replicate xs.length 0) = List.zipWith (· ^^^ ·) xs ys := by
    have := zip_zero (List.zipWith (· ^^^ ·) xs ys)
    rwa [hl] at this
  rw [hzz, Nat.zero_xor, h1] at h2
  rw [ofV_xor _ (zip_lt xs ys hx hy), ofV_xor _ hx, ofV_xor _ hy, ofV_xor _ hz, h2]
  generalize crc ones xs = p; generalize crc ones ys = q; generalize crc ones (List.replicate xs.length 0) = r; generalize ones = o
  apply Nat.eq_of_testBit_eq
  intro j
  simp only [Nat.testBit_xor]
  generalize p.testBit j = p; generalize q.testBit j = q; generalize r.testBit j = r; generalize o.testBit j = s
  cases p <;> cases q <;> cases r <;> cases s <;> rfl
end Sm
end Go.Proofs.Ytlbnikmaafccnaa
