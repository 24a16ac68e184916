/- What the told law says of one path of the four. -/
import Derived.Test.YtbniijmabebhoaaDoorDisjLaw
namespace Go.Proofs.YtbniijmabebhoaaDoor
open Go.RowKit
set_option linter.unusedVariables false
/-- The row of bits of the nodes that are in V. -/
def rowV (m : Nat) (V : List Int) : List Value := (List.range m).map fun (p : Nat) => Value.bool (decide ((p : Int) ∈ V))
theorem rowV_nil (m : Nat) : rowV m [] = List.replicate m (Value.bool false) := by
  apply List.ext_getElem
  · simp [rowV]
  · intro i h1 h2
    simp [rowV]
theorem rowV_at (m : Nat) (V : List Int) (p : Nat) (hp : p < m) : (rowV m V)[p]? = some (Value.bool (decide ((p : Int) ∈ V))) := by
  unfold rowV
  rw [List.getElem?_map, List.getElem?_range hp]
  rfl
theorem rowV_set (m : Nat) (V : List Int) (p : Nat) (hp : p < m) : (rowV m V).set p (Value.bool true) = rowV m (V ++ [(p : Int)]) := by
  apply List.ext_getElem
  · simp [rowV]
  · intro i g1 g2
    simp only [rowV, List.getElem_set, List.getElem_map, List.getElem_range]
    split
    · rename_i h
      subst h
      simp
    · rename_i h
      simp only [Value.bool.injEq, decide_eq_decide, List.mem_append, List.mem_singleton]
      constructor
      · exact .inl
      · rintro (h | h)
        · exact h
        · omega
theorem vis_pre (n a b : Int) (j : Nat) : ∀ k, j ≤ k → (Rg.vis n a b j).Sublist (Rg.vis n a b k) := by
  intro k hk
  induction hk with
  | refl => exact List.Sublist.refl _
  | step _ ih => exact ih.trans (List.sublist_append_left _ _)
/-- What stands of path j. -/
structure Disj (n a b : Int) (j : Nat) : Prop where
  rng : ∀ k, k < (Rg.lJ n a b j).length → 0 ≤ (Rg.lJ n a b j).getD k 0 ∧ (Rg.lJ n a b j).getD k 0 < n
  new : ∀ k, k < (Rg.lJ n a b j).length → (Rg.lJ n a b j).getD k 0 ∉ Rg.vis n a b j ++ (Rg.lJ n a b j).take k
  hop : ∀ k, k < (Rg.lJ n a b j).length → Rg.hopAt n a b j k = 2 ∨ (k = 0 ∧ Rg.hopAt n a b j k = 1)
  last : Rg.okJ n a b j = true → Rg.src n ((j / 2 : Nat) : Int) b ((j % 2 + 1 : Nat) : Int) = (a :: Rg.lJ n a b j).getD (Rg.lJ n a b j).length 0
theorem disj_of (n a b : Int) (j : Nat) (h : Rg.chk n a b = true) (hj : j < 4) : Disj n a b j := by
  unfold Rg.chk at h
  simp only [Bool.and_eq_true, decide_eq_true_eq, List.all_eq_true, List.mem_range] at h
  obtain ⟨⟨h1, h2⟩, _⟩ := h
  have h3 := h2 j hj
  unfold Rg.chkJ at h3
  simp only [Bool.and_eq_true, List.all_eq_true, decide_eq_true_eq, List.mem_range, Bool.or_eq_true, beq_iff_eq, Bool.not_eq_true'] at h3
  obtain ⟨⟨h4, h5⟩, h6⟩ := h3
  have hn : (Rg.vis n a b j ++ Rg.lJ n a b j).Nodup := (vis_pre n a b (j + 1) 4 (by omega)).nodup h1
  refine ⟨fun k hk => ?_, fun k hk => ?_, fun k hk => h5 k hk, fun ho => ?_⟩
  · have : (Rg.lJ n a b j).getD k 0 = (Rg.lJ n a b j)[k] := by simp [hk]
    rw [this]
    exact h4 _ (List.getElem_mem hk)
  · have e : (Rg.lJ n a b j).getD k 0 = (Rg.lJ n a b j)[k] := by simp [hk]
    rw [e]
    intro hm
    have hs : (Rg.vis n a b j ++ (Rg.lJ n a b j).take (k + 1)).Nodup := (List.Sublist.append_left (List.take_sublist _ _) _).nodup hn
    rw [List.take_succ_eq_append_getElem hk, ← List.append_assoc, List.nodup_append] at hs
    exact hs.2.2 _ hm _ (by simp) rfl
  · rcases h6 with h6 | h6
    · rw [ho] at h6; cases h6
    · exact h6
theorem cnt_of (n a b : Int) (h : Rg.chk n a b = true) : Rg.cnt n a b 4 = if Rg.near n a b then 3 else 4 := by
  unfold Rg.chk at h
  simp only [Bool.and_eq_true, beq_iff_eq] at h
  exact h.2
theorem path_self (n d a h : Int) : Rg.pathB n d a a h = false := by
  have : Rg.dist n d a a ≤ 0 := by
    unfold Rg.dist
    split
    · simp
    · omega
  unfold Rg.pathB
  simp; omega
end Go.Proofs.YtbniijmabebhoaaDoor
