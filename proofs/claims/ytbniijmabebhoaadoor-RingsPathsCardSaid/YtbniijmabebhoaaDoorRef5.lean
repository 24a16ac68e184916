/- The reference's Path and Place. -/
import Derived.Test.YtbniijmabebhoaaDoorRef4
namespace Go.Proofs.YtbniijmabebhoaaDoor
open Go.RowKit
set_option linter.unusedVariables false
theorem pl_fuel (n d : Int) : ∀ (f f' : Nat) (p hop left : Int), 1 ≤ hop → 0 ≤ left → left < f → left < f' → Rg.pl n d f p hop left = Rg.pl n d f' p hop left := by
  intro f
  induction f with
  | zero => intro f' p hop left h1 h2 h3; omega
  | succ f ih =>
    intro f' p hop left h1 h2 h3 h4
    obtain ⟨f', rfl⟩ : ∃ m, f' = m + 1 := ⟨f' - 1, by omega⟩
    unfold Rg.pl
    split
    · rfl
    · rename_i hz
      congr 1
      split
      · rfl
      · exact ih f' _ 2 (left - min hop left) (by omega) (by omega) (by omega) (by omega)
theorem pl_len' (n d : Int) : ∀ (f : Nat) (at_ hop left : Int), (Rg.pl n d f at_ hop left).length ≤ f := by
  intro f
  induction f with
  | zero => intro _ _ _; simp [Rg.pl]
  | succ f ih =>
    intro at_ hop left
    unfold Rg.pl
    split
    · simp
    · simp only [List.length_cons]
      split
      · simp
      · have := ih (Rg.step n d at_ (-hop)) 2 (left - min hop left); omega
theorem dist_back (n d a b h : Int) (hn : 4 ≤ n) (hn' : n ≤ 16) (hd : d = 0 ∨ d = 1) (ha : 0 ≤ a) (ha' : a < n) (hb : 0 ≤ b) (hb' : b < n) (hh : 0 ≤ h) (hD : h ≤ Rg.dist n d a b) : Rg.dist n d a (Rg.step n d b (-h)) = Rg.dist n d a b - h := by
  have r := dist_rng n d a b hn hn' hd ha ha' hb hb'
  have e : Rg.step n d b (-h) = Rg.step n d a (Rg.dist n d a b - h) := by
    rw [step_is n d b (-h) hn hn' hd hb hb', step_is n d a _ hn hn' hd ha ha', dist_is n d a b hn hn' hd ha ha' hb hb']
    rcases hd with rfl | rfl
    · simp only [if_true]
      rw [show a + ((b - a) % n - h) = (b - a) % n + (a - h) from by omega, Int.emod_add_emod, show b - a + (a - h) = b + -h from by omega]
    · simp only [show ¬ (1 : Int) = 0 from by decide, if_false]
      rw [show a - ((a - b) % n - h) = a + h - (a - b) % n from by omega, Int.sub_emod_emod, show a + h - (a - b) = b - -h from by omega]
  rw [e, dist_step n d a _ hn hn' hd ha ha' (by omega) (by omega)]
/-- What Path goes by, one hop back. -/
theorem path_rec (n d a b h : Int) (hn : 4 ≤ n) (hn' : n ≤ 16) (hd : d = 0 ∨ d = 1) (ha : 0 ≤ a) (ha' : a < n) (hb : 0 ≤ b) (hb' : b < n) (hh : h = 1 ∨ h = 2) (hD : h < Rg.dist n d a b) :
    Rg.pathL n d a b h = Rg.pathL n d a (Rg.step n d b (-h)) (if Rg.dist n d a b - h = 1 then 1 else 2) ++ [Rg.step n d b (-h)] := by
  have hd1 := dist_back n d a b h hn hn' hd ha ha' hb hb' (by omega) (by omega)
  have r := dist_rng n d a b hn hn' hd ha ha' hb hb'
  unfold Rg.pathL
  rw [hd1]
  generalize Rg.dist n d a b = x at *
  have hm : min h x = h := by omega
  rw [Rg.pl, hm, if_neg (by omega)]
  simp only [List.reverse_cons, List.append_cancel_right_eq, List.reverse_inj]
  split
  · rename_i h1
    rw [h1, Rg.pl, if_pos (by omega)]
  · exact pl_fuel n d 19 20 _ 2 (x - h) (by omega) (by omega) (by omega) (by omega)
theorem path_end (n d a b h : Int) (hD : Rg.dist n d a b = h) : Rg.pathL n d a b h = [] := by
  unfold Rg.pathL
  rw [hD, Rg.pl, if_pos (by omega)]
  rfl
end Go.Proofs.YtbniijmabebhoaaDoor
