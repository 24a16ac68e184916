/- A slice of slices of numbers that came in, row by row. -/
import Derived.Test.YtbniijmabebhoaaRunWalk
import Derived.Deep.Matrix
namespace Go.Proofs.Ytbniijmabebhoaa
open Go.ChangeShapes Go.WideShapes Go.ChangeAt Go.RowKit Go.Deep
set_option linter.unusedVariables false
theorem open_rows {H : Type} {enc : TypeId × Value → H} {P : Program} {w : World} {held : Bool} {r : Reach} {b0 : Nat} {t e q : TypeId} {v : Value} {d : DataW H} {p : List MemPlace} (ht : P.underlying t = some (.slice e)) (he : P.underlying e = some (.slice q)) (hq : P.underlying q = some (.int .i64))
    (ce : P.cellsOf e = 1) (cq : P.cellsOf q = 1) (hv : Value.okWide P w r b0 t v) (h : DataW.Trod enc P w 0 (fun _ => true) held t v d p) :
    ∃ (A : Option Addr) (len cap : Nat), v = .slice A len cap ∧ len ≤ cap ∧ cap ≤ maxLen ∧ ∀ i, i < len → ∃ ad, A = some ad ∧ RowAt w ad i := by
  obtain ⟨A, len, cap, rfl⟩ := okWide_slice ht hv
  obtain ⟨fuel, hf⟩ := h
  rcases open_int_rows ht he hq ce cq hf with ⟨h0, _⟩ | ⟨a, len', cap', R, L, C, Z, hcs, _, hl, hm, _, hi⟩
  · simp [Value.cells] at h0
    obtain ⟨rfl, rfl, rfl⟩ := h0
    exact ⟨none, 0, 0, rfl, by omega, by omega, fun i hi => by omega⟩
  · simp [Value.cells] at hcs
    obtain ⟨rfl, rfl, rfl⟩ := hcs
    refine ⟨some a, len, cap, rfl, hl, hm, fun i hil => ⟨a, rfl, ?_⟩⟩
    obtain ⟨h1, h2, h3, h4, _, h5, h6⟩ := hi i (by omega)
    refine ⟨R i, L i, C i, (Z i).take (L i), h1, lt_of_cell h1, by omega, by rw [List.length_take]; omega, ?_⟩
    intro k u hu
    rw [List.getElem?_map, List.getElem?_take] at hu
    split at hu
    · rename_i hk
      cases hR : R i with
      | none => have := h5 hR; omega
      | some a' =>
        have hc := (h6 a' hR).2 k (by omega)
        rw [List.getElem?_eq_getElem (by omega)] at hu
        simp at hu
        subst hu
        rw [List.getD_eq_getElem?_getD, List.getElem?_eq_getElem (by omega)] at hc
        refine ⟨a', rfl, ?_, hc⟩
        have := lt_of_cell hc
        rwa [add_block] at this
    · simp at hu
end Go.Proofs.Ytbniijmabebhoaa
