/- Words for lines: a line in memory (its struct's block and its way's block), what stays of the world, copying the way down. -/
import Derived.Test.YtbniijmabebhoaaDoorBase
import Derived.Laws.CopyRow
import Derived.Laws.Rows
namespace Go.Proofs.YtbniijmabebhoaaDoor
open Go.RowKit
set_option linter.unusedVariables false
set_option linter.unusedSimpArgs false
/-- But for the blocks of S, what was there is as it was. -/
structure Far (S : Nat → Prop) (w w' : World) : Prop where
  os : w'.os = w.os
  tape : w'.tape = w.tape
  output : w'.output = w.output
  size : w.heap.size ≤ w'.heap.size
  block : ∀ k, k < w.heap.size → ¬ S k → w'.heap[k]? = w.heap[k]?
theorem Far.refl (S : Nat → Prop) (w : World) : Far S w w := ⟨rfl, rfl, rfl, Nat.le_refl _, fun _ _ _ => rfl⟩
theorem Far.trans {S : Nat → Prop} {a b c : World} (h : Far S a b) (k : Far S b c) : Far S a c :=
  ⟨k.os.trans h.os, k.tape.trans h.tape, k.output.trans h.output, Nat.le_trans h.size k.size, fun i hi hn => (k.block i (Nat.lt_of_lt_of_le hi h.size) hn).trans (h.block i hi hn)⟩
theorem Far.wide {S S' : Nat → Prop} {a b : World} (h : Far S a b) (hs : ∀ k, S k → S' k) : Far S' a b :=
  ⟨h.os, h.tape, h.output, h.size, fun i hi hn => h.block i hi (fun e => hn (hs i e))⟩
theorem Far.drewN {S : Nat → Prop} {a b : World} (h : Far S a b) (n : Nat) : Far S a (b.drewN n) := ⟨h.os, h.tape, h.output, h.size, h.block⟩
theorem Far.drew {S : Nat → Prop} {a b : World} (h : Far S a b) : Far S a b.drew := ⟨h.os, h.tape, h.output, h.size, h.block⟩
theorem Far.alloc {S : Nat → Prop} {a b : World} (h : Far S a b) (o : Obj) : Far S a (b.alloc o) :=
  h.trans ⟨rfl, rfl, rfl, by simp, fun k hk _ => Below.heap_alloc _ _ _ hk⟩
theorem Far.setCell {S : Nat → Prop} {a b : World} (h : Far S a b) {p : Addr} (hp : S p.block ∨ a.heap.size ≤ p.block) (u : Value) : Far S a (b.setCell p u) :=
  ⟨h.os, h.tape, h.output, by simpa [World.setCell] using h.size, fun k hk hn => (Below.heap_setCell _ _ _ _ (by
    rintro rfl
    rcases hp with hp | hp
    · exact hn hp
    · omega)).trans (h.block k hk hn)⟩
theorem setRow_far (w : World) (R : Nat) (cs : Array Value) (k : Nat) (h : k ≠ R) : (w.setRow R cs).heap[k]? = w.heap[k]? := by
  simp only [World.setRow, Array.getElem?_modify]
  rw [if_neg (by omega)]
theorem Far.setRow {S : Nat → Prop} {a b : World} (h : Far S a b) {R : Nat} (hp : S R ∨ a.heap.size ≤ R) (cs : Array Value) : Far S a (b.setRow R cs) :=
  ⟨h.os, h.tape, h.output, by simpa [World.setRow] using h.size, fun k hk hn => (setRow_far _ _ _ _ (by
    rintro rfl
    rcases hp with hp | hp
    · exact hn hp
    · omega)).trans (h.block k hk hn)⟩
theorem Far.below {S : Nat → Prop} {a b c : World} {B : Nat} (hb : Below B a b) (h : Far S b c) (hB : B ≤ b.heap.size) (hs : ∀ k, S k → B ≤ k) : Below B a c :=
  hb.trans ⟨h.os, h.tape, h.output, h.size, fun k hk => h.block k (by omega) (fun e => by have := hs k e; omega)⟩
theorem lt_of_blk {w : World} {B : Nat} {o : Obj} (h : w.heap[B]? = some o) : B < w.heap.size := by
  rcases Nat.lt_or_ge B w.heap.size with h0 | h0
  · exact h0
  · rw [Array.getElem?_eq_none h0] at h; cases h
theorem row_cell {w : World} {B : Nat} {cs : Array Value} {t : TypeId} (h : w.heap[B]? = some (.cells cs t (0, 0))) (i : Nat) : w.cell? ⟨B, i, none⟩ = cs[i]? := by
  unfold World.cell?; rw [h]; rfl
theorem row_free {w : World} {B : Nat} {cs : Array Value} {t : TypeId} (h : w.heap[B]? = some (.cells cs t (0, 0))) (i : Nat) : w.frozen? ⟨B, i, none⟩ = false := by
  unfold World.frozen?; rw [h]; simp
theorem row_set {w : World} {B : Nat} {cs : Array Value} {t : TypeId} (h : w.heap[B]? = some (.cells cs t (0, 0))) (i : Nat) (u : Value) : (w.setCell ⟨B, i, none⟩ u).heap[B]? = some (.cells (cs.setIfInBounds i u) t (0, 0)) := by
  simp [World.setCell, Array.getElem?_modify, h]
/-- A line: its struct's block B, its way's block R. -/
def Ln (w : World) (TL TC B R h : Nat) (cs : Array Value) (t : Int) : Prop :=
  w.heap[B]? = some (.cells #[.slice (some ⟨R, 0, none⟩) h h, .int .i64 t] TL (0, 0)) ∧ w.heap[R]? = some (.cells cs TC (0, 0))
theorem Ln.far {S : Nat → Prop} {w w' : World} {TL TC B R h : Nat} {cs : Array Value} {t : Int} (L : Ln w TL TC B R h cs t) (hf : Far S w w') (hB : ¬ S B) (hR : ¬ S R) : Ln w' TL TC B R h cs t :=
  ⟨(hf.block B (lt_of_blk L.1) hB).trans L.1, (hf.block R (lt_of_blk L.2) hR).trans L.2⟩
theorem Ln.alloc {w : World} {TL TC B R h : Nat} {cs : Array Value} {t : Int} (L : Ln w TL TC B R h cs t) (o : Obj) : Ln (w.alloc o) TL TC B R h cs t :=
  L.far (S := fun _ => False) ((Far.refl _ w).alloc o) (fun h => h) (fun h => h)
theorem Ln.drewN {w : World} {TL TC B R h : Nat} {cs : Array Value} {t : Int} (L : Ln w TL TC B R h cs t) (n : Nat) : Ln (w.drewN n) TL TC B R h cs t := L
theorem Ln.ne {w : World} {TL TC B R h : Nat} {cs : Array Value} {t : Int} (L : Ln w TL TC B R h cs t) (hne : TL ≠ TC) : B ≠ R := by
  rintro rfl
  have := L.1.symm.trans L.2
  injection this with this
  injection this with _ h2
  exact hne h2
theorem run_copy_down {P : Program} (w : World) (dT sT ty e t : TypeId) (R : Nat) (u0 u1 u2 u3 : Value) (hu : P.underlying dT = some (.slice e)) (hs : (P.info? e).map (·.size) = some 2)
    (hg : w.heap[R]? = some (.cells #[u0, u1, u2, u3] t (0, 0))) (h2 : u2.oneCell' = true) (h3 : u3.oneCell' = true) :
    (Builtin.copy_ #[dT, sT] ty #[.slice (some ⟨R, 0, none⟩) 2 2, .slice (some ⟨R, 2, none⟩) 1 1]).run P w = .ok (.int .i64 1) (w.setRow R #[u2, u3, u2, u3]) := by
  have hl := run_loadCells_list (P := P) w ⟨R, 2, none⟩ [u2, u3] (fun j v hj => by
    match j, hj with
    | 0, hj => simp at hj; subst hj; simp [World.cell?, Addr.add, hg]
    | 1, hj => simp at hj; subst hj; simp [World.cell?, Addr.add, hg])
  have hst := run_storeCells_at P R 0 t [u2, u3] 0 #[u0, u1, u2, u3] w hg (by simp) (by simp [h2, h3])
  cases hq : P.info? e with
  | none => simp [hq] at hs
  | some i =>
    have hi : i.size = 2 := by simpa [hq] using hs
    simp at hst
    simp [Builtin.copy_, run_underlying hu, Builtin.lenOf, Builtin.firstCells, sizeOf, typeInfo, hq, hi]
    have e1 : (loadCells ⟨R, 2, none⟩ 2).run P w = .ok #[u2, u3] w := hl
    simp [e1, hst, goInt]
theorem run_copy_none {P : Program} (w : World) (dT sT ty e : TypeId) (R : Nat) (hu : P.underlying dT = some (.slice e)) (hs : (P.info? e).map (·.size) = some 2) :
    (Builtin.copy_ #[dT, sT] ty #[.slice (some ⟨R, 0, none⟩) 1 1, .slice (some ⟨R, 0, none⟩) 0 0]).run P w = .ok (.int .i64 0) w := by
  have hl := run_loadCells_list (P := P) w ⟨R, 0, none⟩ [] (fun j v hj => by simp at hj)
  cases hq : P.info? e with
  | none => simp [hq] at hs
  | some i =>
    have hi : i.size = 2 := by simpa [hq] using hs
    have e1 : (loadCells ⟨R, 0, none⟩ 0).run P w = .ok #[] w := hl
    simp [Builtin.copy_, run_underlying hu, Builtin.lenOf, Builtin.firstCells, sizeOf, typeInfo, hq, hi, e1, storeCells, goInt]
end Go.Proofs.YtbniijmabebhoaaDoor
