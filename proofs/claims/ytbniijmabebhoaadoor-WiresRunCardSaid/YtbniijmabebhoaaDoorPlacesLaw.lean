/- The plain law of places: each way's places are a numbering of the ring, and the sources lie before. -/
import Derived.Test.YtbniijmabebhoaaDoorNumbersWalk
namespace Go.Proofs.YtbniijmabebhoaaDoor
open Go.RowKit
set_option linter.unusedVariables false
theorem dist_is (n d a b : Int) (hn : 4 ≤ n) (hn' : n ≤ 16) (hd : d = 0 ∨ d = 1) (ha : 0 ≤ a) (ha' : a < n) (hb : 0 ≤ b) (hb' : b < n) : Rg.dist n d a b = (if d = 0 then b - a else a - b) % n := by
  have r : Rg.ringB n d = true := by simp [Rg.ringB]; omega
  have q : Rg.nodeB n a = true := by simp [Rg.nodeB]; omega
  have q' : Rg.nodeB n b = true := by simp [Rg.nodeB]; omega
  rw [Rg.dist, r, q, q']
  rcases hd with rfl | rfl <;> simp [Rg.sg]
  rw [Int.neg_sub]
theorem next_is (n f : Int) (hn : 4 ≤ n) (hn' : n ≤ 16) (hf : 0 ≤ f) (hf' : f < n) : Rg.step n 0 f 1 = if f + 1 = n then 0 else f + 1 := by
  rw [step_is n 0 f 1 hn hn' (.inl rfl) hf hf', if_pos rfl]
  split
  · rename_i h; rw [h, Int.emod_self]
  · exact Int.emod_eq_of_lt (by omega) (by omega)
/-- The place, opened. -/
theorem place_is (n d f a : Int) (hn : 4 ≤ n) (hn' : n ≤ 16) (hd : d = 0 ∨ d = 1) (hf : 0 ≤ f) (hf' : f < n) (ha : 0 ≤ a) (ha' : a < n) :
    Rg.place n d f a = if d = 0 then (if f ≤ a then a - f else a - f + n) else (if a ≤ (if f + 1 = n then 0 else f + 1) then (if f + 1 = n then 0 else f + 1) - a else (if f + 1 = n then 0 else f + 1) - a + n) := by
  have h1 := next_is n f hn hn' hf hf'
  unfold Rg.place
  rcases hd with rfl | rfl
  · rw [if_neg (by decide), if_pos rfl, dist_is n 0 f a hn hn' (.inl rfl) hf hf' ha ha', if_pos rfl, fwd n f a hf hf' ha ha']
  · rw [if_pos rfl, if_neg (by decide), h1, dist_is n 1 _ a hn hn' (.inr rfl) (by split <;> omega) (by split <;> omega) ha ha', if_neg (by decide), fwd n a _ ha ha' (by split <;> omega) (by split <;> omega)]
theorem place_rng (n d f a : Int) (hn : 4 ≤ n) (hn' : n ≤ 16) (hd : d = 0 ∨ d = 1) (hf : 0 ≤ f) (hf' : f < n) (ha : 0 ≤ a) (ha' : a < n) : 0 ≤ Rg.place n d f a ∧ Rg.place n d f a < n := by
  rw [place_is n d f a hn hn' hd hf hf' ha ha']
  rcases hd with rfl | rfl <;> simp <;> split <;> (try split) <;> omega
theorem place_inj (n d f a b : Int) (hn : 4 ≤ n) (hn' : n ≤ 16) (hd : d = 0 ∨ d = 1) (hf : 0 ≤ f) (hf' : f < n) (ha : 0 ≤ a) (ha' : a < n) (hb : 0 ≤ b) (hb' : b < n) (h : Rg.place n d f a = Rg.place n d f b) : a = b := by
  rw [place_is n d f a hn hn' hd hf hf' ha ha', place_is n d f b hn hn' hd hf hf' hb hb'] at h
  rcases hd with rfl | rfl
  · simp at h; split at h <;> split at h <;> omega
  · simp at h
    generalize (if f + 1 = n then (0 : Int) else f + 1) = t at h
    split at h <;> split at h <;> omega
theorem step_neg (n d a s : Int) (hn : 4 ≤ n) (hn' : n ≤ 16) (hd : d = 0 ∨ d = 1) (ha : 0 ≤ a) (ha' : a < n) (hs : s = 1 ∨ s = 2) :
    Rg.step n d a (-s) = if d = 0 then (if s ≤ a then a - s else a - s + n) else (if a + s < n then a + s else a + s - n) := by
  rw [step_is n d a _ hn hn' hd ha ha']
  rcases hd with rfl | rfl
  · rw [if_pos rfl, if_pos rfl]
    split
    · exact Int.emod_eq_of_lt (by omega) (by omega)
    · rw [emod_dn n _ (by omega) (by omega)]; omega
  · rw [if_neg (by decide), if_neg (by decide), show a - -s = a + s from by omega]
    split
    · exact Int.emod_eq_of_lt (by omega) (by omega)
    · rw [emod_up n _ (by omega) (by omega)]
theorem place_src (n d f a h : Int) (hn : 4 ≤ n) (hn' : n ≤ 16) (hd : d = 0 ∨ d = 1) (hf : 0 ≤ f) (hf' : f < n) (ha : 0 ≤ a) (ha' : a < n) (hh : h = 1 ∨ h = 2) (hp : h ≤ Rg.place n d f a) :
    Rg.place n d f (Rg.src n d a h) = Rg.place n d f a - h := by
  have hop : Rg.hopB h = true := by rcases hh with rfl | rfl <;> rfl
  have e : Rg.src n d a h = Rg.step n d a (-h) := by rw [Rg.src, hop, if_pos rfl]
  have hr := step_rng n d a (-h) hn hn' hd ha ha'
  rw [← e] at hr
  rw [step_neg n d a h hn hn' hd ha ha' hh] at e
  rw [place_is n d f a hn hn' hd hf hf' ha ha'] at hp ⊢
  rw [place_is n d f _ hn hn' hd hf hf' hr.1 hr.2]
  generalize Rg.src n d a h = b at *
  have ht : 0 ≤ (if f + 1 = n then (0 : Int) else f + 1) ∧ (if f + 1 = n then (0 : Int) else f + 1) < n := by split <;> omega
  generalize (if f + 1 = n then (0 : Int) else f + 1) = t at *
  rcases hd with rfl | rfl
  · simp only [if_true] at *
    split at e <;> split at hp <;> split <;> simp_all <;> omega
  · simp only [show ¬ (1 : Int) = 0 from by decide, if_false] at *
    split at e <;> split at hp <;> split <;> simp_all <;> omega
/-- The row of bits behind k nodes. -/
def rowP (m : Nat) (P : Nat → Nat) (k : Nat) : List Value := (List.range m).map fun p => Value.bool (decide (∃ a, a < k ∧ P a = p))
theorem rowP_zero (m : Nat) (P : Nat → Nat) : rowP m P 0 = List.replicate m (Value.bool false) := by
  apply List.ext_getElem
  · simp [rowP]
  · intro i h1 h2
    simp [rowP]
theorem rowP_len (m : Nat) (P : Nat → Nat) (k : Nat) : (rowP m P k).length = m := by simp [rowP]
theorem rowP_at (m : Nat) (P : Nat → Nat) (k : Nat) (hm : P k < m) (h : ∀ a, a < k → ¬ P a = P k) : (rowP m P k)[P k]? = some (Value.bool false) := by
  unfold rowP
  rw [List.getElem?_map, List.getElem?_range hm]
  simp only [Option.map_some, Option.some.injEq, Value.bool.injEq, decide_eq_false_iff_not]
  rintro ⟨a, h1, h2⟩
  exact h a h1 h2
theorem rowP_set (m : Nat) (P : Nat → Nat) (k : Nat) (hm : P k < m) : (rowP m P k).set (P k) (Value.bool true) = rowP m P (k + 1) := by
  apply List.ext_getElem
  · simp [rowP]
  · intro i g1 g2
    simp only [rowP, List.getElem_set, List.getElem_map, List.getElem_range]
    split
    · rename_i h
      subst h
      simp only [Value.bool.injEq, eq_comm (a := true), decide_eq_true_eq]
      exact ⟨k, by omega, rfl⟩
    · rename_i h
      simp only [Value.bool.injEq, decide_eq_decide]
      constructor
      · rintro ⟨a, h1, h2⟩; exact ⟨a, by omega, h2⟩
      · rintro ⟨a, h1, h2⟩
        refine ⟨a, ?_, h2⟩
        rcases Nat.lt_or_ge a k with h3 | h3
        · exact h3
        · obtain rfl : a = k := by omega
          exact absurd h2 h
theorem madeRow (z : Value) (m : Nat) (hz : z.cells = #[z]) : (madeCells z.cells (m * 1)).toList = List.replicate m z := by
  rw [hz]
  apply List.ext_getElem?
  intro i
  simp [madeCells, List.getElem?_replicate, Nat.mod_one]
  split <;> simp_all
end Go.Proofs.YtbniijmabebhoaaDoor
