/- The reference of layer 8: what was given, tick by tick, in rows. -/
import Derived.Test.YtbniijmabebhoaaDoorWPlain
import Derived.Test.YtbniijmabebhoaaDoorRef4

import Derived.RegionTactic
import Derived.BigRegion
import Derived.ChangeAlike
import Derived.Deep.RegionHeld3
import Derived.Deep.DrawnRows
import Derived.Laws.MakeOwn
namespace Go.Proofs.YtbniijmabebhoaaDoor
open Go.RowKit
set_option linter.unusedVariables false
namespace Wr
open Mp
def rowL (f : Int → Option Int) (N : Nat) : List Value := (List.range N).flatMap fun (j : Nat) => enc (f (j : Int))
def rowA (f : Int → Option Int) (N : Nat) : Array Value := (rowL f N).toArray
theorem enc_len (o : Option Int) : (enc o).length = 2 := by cases o <;> rfl
theorem rowL_succ (f : Int → Option Int) (N : Nat) : rowL f (N + 1) = rowL f N ++ enc (f (N : Int)) := by unfold rowL; rw [List.range_succ, List.flatMap_append]; simp
theorem rowL_len (f : Int → Option Int) (N : Nat) : (rowL f N).length = 2 * N := by
  induction N with
  | zero => rfl
  | succ N ih => rw [rowL_succ, List.length_append, ih, enc_len]; omega
theorem enc_at (o : Option Int) : (enc o)[0]? = some (.int .i64 (o.getD 0)) ∧ (enc o)[1]? = some (.bool o.isSome) := by cases o <;> exact ⟨rfl, rfl⟩
theorem rowL_at (f : Int → Option Int) (N j : Nat) (h : j < N) : (rowL f N)[2 * j]? = some (.int .i64 ((f j).getD 0)) ∧ (rowL f N)[2 * j + 1]? = some (.bool (f j).isSome) := by
  induction N with
  | zero => omega
  | succ N ih =>
    rw [rowL_succ]
    by_cases hj : j < N
    · rw [List.getElem?_append_left (by rw [rowL_len]; omega), List.getElem?_append_left (by rw [rowL_len]; omega)]
      exact ih hj
    · obtain rfl : j = N := by omega
      rw [List.getElem?_append_right (by rw [rowL_len]; omega), List.getElem?_append_right (by rw [rowL_len]; omega), rowL_len, Nat.sub_self, show 2 * j + 1 - 2 * j = 1 from by omega]
      exact enc_at _
theorem rowL_set (f : Int → Option Int) (N q : Nat) (h : q < N) (o : Option Int) : ((rowL f N).set (2 * q) (.int .i64 (o.getD 0))).set (2 * q + 1) (.bool o.isSome) = rowL (fun j => if j = q then o else f j) N := by
  have ext : ∀ (i : Nat) (b : Bool) (v w : Value), i < 2 * N → True := fun _ _ _ _ _ => trivial
  apply List.ext_getElem?
  intro i
  by_cases hi : i < 2 * N
  · obtain ⟨j, hj⟩ : ∃ j, i = 2 * j ∨ i = 2 * j + 1 := ⟨i / 2, by omega⟩
    have hjN : j < N := by omega
    obtain ⟨a1, a2⟩ := rowL_at f N j hjN
    obtain ⟨b1, b2⟩ := rowL_at (fun j => if j = q then o else f j) N j hjN
    rcases hj with rfl | rfl
    · rw [b1, List.getElem?_set, if_neg (by omega), List.getElem?_set]
      by_cases hq : q = j
      · subst hq
        rw [if_pos rfl, if_pos (by rw [rowL_len]; omega), if_pos rfl]
      · rw [if_neg (by omega), a1, if_neg (by omega)]
    · rw [b2, List.getElem?_set]
      by_cases hq : q = j
      · subst hq
        rw [if_pos rfl, if_pos (by rw [List.length_set, rowL_len]; omega), if_pos rfl]
      · rw [if_neg (by omega), List.getElem?_set, if_neg (by omega), a2, if_neg (by omega)]
  · rw [List.getElem?_eq_none (by rw [List.length_set, List.length_set, rowL_len]; omega), List.getElem?_eq_none (by rw [rowL_len]; omega)]
theorem rowL_none (N : Nat) : rowA (fun _ => none) N = madeCells (Value.agg #[.int .i64 0, .bool false]).cells (N * 2) := by
  apply Array.ext'
  apply List.ext_getElem?
  intro i
  unfold rowA madeCells
  by_cases hi : i < 2 * N
  · obtain ⟨j, hj⟩ : ∃ j, i = 2 * j ∨ i = 2 * j + 1 := ⟨i / 2, by omega⟩
    have hjN : j < N := by omega
    obtain ⟨a1, a2⟩ := rowL_at (fun _ => none) N j hjN
    have e2 : (Value.agg #[Value.int IntKind.i64 0, .bool false]).cells = #[.int .i64 0, .bool false] := rfl
    rcases hj with rfl | rfl
    · rw [show (rowL (fun _ => none) N).toArray.toList = rowL (fun _ => none) N from rfl, a1]
      simp [e2, show 2 * j < N * 2 from by omega, show 2 * j % 2 = 0 from by omega]
    · rw [show (rowL (fun _ => none) N).toArray.toList = rowL (fun _ => none) N from rfl, a2]
      simp [e2, show 2 * j + 1 < N * 2 from by omega, show (2 * j + 1) % 2 = 1 from by omega]
  · rw [show (rowL (fun _ => none) N).toArray.toList = rowL (fun _ => none) N from rfl, List.getElem?_eq_none (by rw [rowL_len]; omega), List.getElem?_eq_none (by simp; omega)]
/-- Row i, of those that were given. -/
def full (H : List (Int → Option Int)) (G : Int → Option Int) (i : Nat) : Int → Option Int := fun j => past (G :: H) (H.length - i) j
def hds (rb : Nat → Nat) (n N : Nat) : List Value := (List.range N).map fun i => Value.slice (some ⟨rb i, 0, none⟩) (4 * n) (4 * n)
/-- The reference's wires: the struct's block, the rows' block, each row's. -/
structure Rf (w : World) (base Br O cap : Nat) (rb : Nat → Nat) (n : Nat) (H : List (Int → Option Int)) (G : Int → Option Int) : Prop where
  n4 : 4 ≤ n
  n16 : n ≤ 16
  st : w.heap[Br]? = some (.cells #[.int .i64 n, .slice (some ⟨O, 0, none⟩) (H.length + 1) cap] 46 (0, 0))
  own : w.ownsRow base 86 1 (.slice (some ⟨O, 0, none⟩) (H.length + 1) cap) (H.length + 1) (hds rb n (H.length + 1))
  row : ∀ i, i ≤ H.length → w.heap[rb i]? = some (.cells (rowA (full H G i) (4 * n)) 36 (0, 0))
  inj : ∀ i j, i ≤ H.length → j ≤ H.length → i ≠ j → rb i ≠ rb j
  lo : base ≤ Br ∧ ∀ i, i ≤ H.length → base ≤ rb i
section
variable {w w' : World} {base Br O cap n : Nat} {rb : Nat → Nat} {H : List (Int → Option Int)} {G : Int → Option Int}
theorem own_keep {base e size n' : Nat} {v : Value} {xs : List Value} {S : Nat → Prop} (h : w.ownsRow base e size v n' xs) (hf : Far S w w') (hn : ∀ g, v.ownBlock = some g → ¬ S g) : w'.ownsRow base e size v n' xs := by
  refine ⟨h.1, ?_⟩
  rcases h.2 with h0 | ⟨g, c, cur, rfl, hb, hg, rest⟩
  · exact .inl h0
  · exact .inr ⟨g, c, cur, rfl, hb, (hf.block g (lt_of_blk hg) (hn g rfl)).trans hg, rest⟩
theorem Rf.far {S : Nat → Prop} (h : Rf w base Br O cap rb n H G) (hf : Far S w w') (h1 : ¬ S Br) (h2 : ¬ S O) (h3 : ∀ i, i ≤ H.length → ¬ S (rb i)) : Rf w' base Br O cap rb n H G :=
  ⟨h.n4, h.n16, (hf.block _ (lt_of_blk h.st) h1).trans h.st, own_keep h.own hf (fun g hg => by simp [Value.ownBlock] at hg; subst hg; exact h2), fun i hi => (hf.block _ (lt_of_blk (h.row i hi)) (h3 i hi)).trans (h.row i hi), h.inj, h.lo⟩
theorem Rf.out (h : Rf w base Br O cap rb n H G) : ∃ cur, w.heap[O]? = some (.cells cur 86 (0, 0)) ∧ base ≤ O ∧ H.length + 1 ≤ cap ∧ cap ≤ maxLen := by
  rcases h.own.2 with ⟨h0, _⟩ | ⟨g, c, cur, e, hb, hg, h1, h2, _⟩
  · simp at h0
  · injection e with e1 e2 e3
    injection e1 with e1
    injection e1 with e1
    subst e1
    subst e3
    exact ⟨cur, hg, hb, h1, h2⟩
theorem ty_ne {a b : Nat} {cs cs' : Array Value} {t t' : TypeId} {f f' : Nat × Nat} (h1 : w.heap[a]? = some (.cells cs t f)) (h2 : w.heap[b]? = some (.cells cs' t' f')) (hne : t ≠ t') : a ≠ b := by
  rintro rfl
  rw [h1] at h2
  injection h2 with h2
  injection h2 with _ h2
  exact hne h2
theorem Rf.ne (h : Rf w base Br O cap rb n H G) (i : Nat) (hi : i ≤ H.length) : Br ≠ O ∧ Br ≠ rb i ∧ O ≠ rb i := by
  obtain ⟨cur, ho, _⟩ := h.out
  exact ⟨ty_ne h.st ho (by decide), ty_ne h.st (h.row i hi) (by decide), ty_ne ho (h.row i hi) (by decide)⟩
theorem Rf.cellO (h : Rf w base Br O cap rb n H G) (i : Nat) (hi : i ≤ H.length) : w.cell? ⟨O, i, none⟩ = some (.slice (some ⟨rb i, 0, none⟩) (4 * n) (4 * n)) := by
  have := h.own.cellAt (g := O) i (by omega)
  rw [this]
  unfold hds
  rw [List.getElem?_map, List.getElem?_range (by omega)]
  rfl
theorem Rf.cellR (h : Rf w base Br O cap rb n H G) (i j : Nat) (hi : i ≤ H.length) (hj : j < 4 * n) :
    w.cell? ⟨rb i, 2 * j, none⟩ = some (.int .i64 ((full H G i j).getD 0)) ∧ w.cell? ⟨rb i, 2 * j + 1, none⟩ = some (.bool (full H G i j).isSome) := by
  obtain ⟨h1, h2⟩ := rowL_at (full H G i) (4 * n) j hj
  rw [row_cell (h.row i hi), row_cell (h.row i hi)]
  unfold rowA
  rw [List.getElem?_toArray, List.getElem?_toArray]
  exact ⟨h1, h2⟩
end
end Wr
end Go.Proofs.YtbniijmabebhoaaDoor
