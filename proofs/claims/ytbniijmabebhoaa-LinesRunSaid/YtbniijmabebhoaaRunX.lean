/- The program's line of numbers, by the list of what was sent: what each method returns, and what becomes of the line. -/
import Derived.Test.YtbniijmabebhoaaRunTwin
namespace Go.Proofs.Ytbniijmabebhoaa
open Go.RowKit Rn
set_option linter.unusedVariables false
namespace Rn
/-- The cells of a line with hop h, when l has been sent. -/
def lcs (h : Nat) (l : List (Int × Bool)) : Array Value :=
  if h = 1 then #[.int .i64 (atV l 1 l.length).1, .bool (atV l 1 l.length).2] else #[.int .i64 (atV l 2 l.length).1, .bool (atV l 2 l.length).2, .int .i64 (atV l 2 (l.length + 1)).1, .bool (atV l 2 (l.length + 1)).2]
theorem atV_append (l : List (Int × Bool)) (p : Int × Bool) (h t : Nat) (ht : t < h + l.length) : atV (l ++ [p]) h t = atV l h t := by
  unfold atV
  split
  · rename_i hh
    rw [List.getD_eq_getElem?_getD, List.getD_eq_getElem?_getD, List.getElem?_append_left (by omega)]
  · rfl
theorem atV_last (l : List (Int × Bool)) (p : Int × Bool) (h : Nat) : atV (l ++ [p]) h (h + l.length) = p := by
  unfold atV
  rw [if_pos (by omega), show h + l.length - h = l.length from by omega, List.getD_eq_getElem?_getD]
  simp
theorem lcs1 (l : List (Int × Bool)) (p : Int × Bool) : lcs 1 (l ++ [p]) = #[.int .i64 p.1, .bool p.2] := by
  have := atV_last l p 1
  unfold lcs
  rw [if_pos rfl, show (l ++ [p]).length = 1 + l.length from by simp; omega, this]
theorem lcs2 (l : List (Int × Bool)) (p : Int × Bool) : lcs 2 (l ++ [p]) = #[.int .i64 (atV l 2 (l.length + 1)).1, .bool (atV l 2 (l.length + 1)).2, .int .i64 p.1, .bool p.2] := by
  have h1 := atV_last l p 2
  have h2 := atV_append l p 2 (l.length + 1) (by omega)
  unfold lcs
  rw [if_neg (by omega), show (l ++ [p]).length = l.length + 1 from by simp, h2, show l.length + 1 + 1 = 2 + l.length from by omega, h1]
theorem wayV1 (l : List (Int × Bool)) : wayV 1 l = [] := by
  unfold wayV atV
  rw [if_pos (by omega), if_pos (by omega), List.getD_eq_getElem?_getD, List.getD_eq_getElem?_getD, List.getElem?_eq_none (by omega), List.getElem?_eq_none (by omega)]
  rfl
theorem wayV2 (l : List (Int × Bool)) : wayV 2 l = one (atV l 2 (l.length + 1)) := by
  unfold wayV
  have : atV l 2 (l.length + 2) = (0, false) := by
    unfold atV
    rw [if_pos (by omega), List.getD_eq_getElem?_getD, List.getElem?_eq_none (by omega)]
    rfl
  rw [this]
  simp [one]
end Rn
/-- The program's line, when l has been sent: its struct's block B, its way's block R. -/
def XSt (w : World) (B R h : Nat) (l : List (Int × Bool)) : Prop := Ln w 60 84 B R h (lcs h l) l.length
theorem XSt.far {S : Nat → Prop} {w w' : World} {B R h : Nat} {l : List (Int × Bool)} (X : XSt w B R h l) (hf : Far S w w') (hB : ¬ S B) (hR : ¬ S R) : XSt w' B R h l := Ln.far X hf hB hR
theorem xhere_any (B R h : Nat) (l : List (Int × Bool)) (w : World) (hh : h = 1 ∨ h = 2) (X : XSt w B R h l) :
    Calls Try.prog 14 #[.pointer (some ⟨B, 0, none⟩)] w fun e w' => e = .returned (.tuple #[.int .i64 (hereV h l).1, .bool (hereV h l).2]) ∧ ∃ q, w' = w.drewN q := by
  rcases hh with rfl | rfl
  · exact L_int.here_any B R 1 _ _ w (by omega) (row_cell X.1 0) (row_cell X.2 0) (row_cell X.2 1)
  · exact L_int.here_any B R 2 _ _ w (by omega) (row_cell X.1 0) (row_cell X.2 0) (row_cell X.2 1)
theorem xticks_any (B R h : Nat) (l : List (Int × Bool)) (w : World) (hh : h = 1 ∨ h = 2) (X : XSt w B R h l) :
    Calls Try.prog 24 #[.pointer (some ⟨B, 0, none⟩)] w fun e w' => e = .returned (.int .i64 l.length) ∧ w = w' :=
  L_int.ticks_any B R h l.length w (by omega) (row_cell X.1 0) (row_cell X.1 1)
theorem xway_any (B R h : Nat) (l : List (Int × Bool)) (w : World) (hh : h = 1 ∨ h = 2) (X : XSt w B R h l) :
    Calls Try.prog 17 #[.pointer (some ⟨B, 0, none⟩)] w fun e w' => (∃ A, e = .returned (.slice A (wayV h l).length (wayV h l).length) ∧ IntRow w' w.heap.size A (wayV h l)) ∧ Below w.heap.size w w' := by
  rcases hh with rfl | rfl
  · rw [wayV1]
    exact (L_int.way1 B R w (row_cell X.1 0)).mono fun e w' ⟨he, hw⟩ => ⟨⟨none, he, .inl ⟨rfl, rfl⟩⟩, hw ▸ Below.refl _ _⟩
  · rw [wayV2]
    obtain ⟨p, hp⟩ : ∃ p, atV l 2 (l.length + 1) = p := ⟨_, rfl⟩
    have c2 : w.cell? ⟨R, 2, none⟩ = some (.int .i64 p.1) := by rw [← hp]; exact row_cell X.2 2
    have c3 : w.cell? ⟨R, 3, none⟩ = some (.bool p.2) := by rw [← hp]; exact row_cell X.2 3
    have c0 : w.cell? ⟨B, 0, none⟩ = some (.slice (some ⟨R, 0, none⟩) 2 2) := row_cell X.1 0
    rw [hp]
    obtain ⟨x, b⟩ := p
    cases b with
    | false => exact (L_int.way2n B R x w c0 c2 c3).mono fun e w' ⟨he, hw⟩ => ⟨⟨none, he, .inl ⟨rfl, rfl⟩⟩, hw⟩
    | true =>
      refine (L_int.way2s B R x w c0 c2 c3).mono fun e w' ⟨g, he, hg, ⟨c, h1, h2⟩, hw⟩ => ⟨⟨_, he, .inr ⟨g, c, rfl, hg, h1, ?_, ?_⟩⟩, hw⟩
      · have := (Array.getElem?_eq_some_iff.1 h2).1
        show 1 ≤ c.size
        omega
      · obtain ⟨l⟩ := c
        cases l with
        | nil => simp at h2
        | cons y r => simp at h2; subst h2; simp [one]
/-- Whatever is sent, one thing, none, or too many. -/
theorem xsend_any (B R h m cx : Nat) (Ax : Option Addr) (xs : List Int) (l : List (Int × Bool)) (w : World) (hh : h = 1 ∨ h = 2) (hn : l.length ≤ 1000) (X : XSt w B R h l) (hm : xs.length = m) (hx : Sl w w.heap.size Ax (xs.map (.int .i64))) :
    Calls Try.prog 22 #[.pointer (some ⟨B, 0, none⟩), .slice Ax m cx] w fun e w' => e = .returned (.int .i64 (errV m)) ∧ XSt w' B R h (sendV l xs) ∧ Far (fun k => k = B ∨ k = R) w w' := by
  match xs, hm with
  | [], hm =>
    subst hm
    rcases hh with rfl | rfl
    · refine (L_int.send1a B R _ _ l.length Ax cx w (by omega) (by omega) X).mono fun e w' ⟨he, hl, hf⟩ => ⟨he, ?_, hf⟩
      show Ln _ _ _ _ _ _ (lcs 1 (l ++ [(0, false)])) ((l ++ [((0 : Int), false)]).length : Nat)
      rw [lcs1]
      simpa using hl
    · refine (L_int.send2a B R _ _ _ _ l.length Ax cx w (by omega) (by omega) X).mono fun e w' ⟨he, hl, hf⟩ => ⟨he, ?_, hf⟩
      show Ln _ _ _ _ _ _ (lcs 2 (l ++ [(0, false)])) ((l ++ [((0 : Int), false)]).length : Nat)
      rw [lcs2]
      simpa using hl
  | [x], hm =>
    subst hm
    obtain ⟨ad, rfl, _, hc⟩ := hx 0 _ rfl
    have e : ad.add 0 = ad := by cases ad; unfold Addr.add; split <;> simp_all
    rw [e] at hc
    rcases hh with rfl | rfl
    · refine (L_int.send1s B R _ _ l.length x ad cx w (by omega) (by omega) X hc).mono fun e w' ⟨he, hl, hf⟩ => ⟨he, ?_, hf⟩
      show Ln _ _ _ _ _ _ (lcs 1 (l ++ [(x, true)])) ((l ++ [(x, true)]).length : Nat)
      rw [lcs1]
      simpa using hl
    · refine (L_int.send2s B R _ _ _ _ l.length x ad cx w (by omega) (by omega) X hc).mono fun e w' ⟨he, hl, hf⟩ => ⟨he, ?_, hf⟩
      show Ln _ _ _ _ _ _ (lcs 2 (l ++ [(x, true)])) ((l ++ [(x, true)]).length : Nat)
      rw [lcs2]
      simpa using hl
  | x :: y :: r, hm =>
    have h1 : 1 < m := by rw [← hm]; simp
    unfold errV
    rw [if_pos h1]
    exact (L_int.send_many B R h Ax m cx w (by omega) h1 (row_cell X.1 0)).mono fun e w' ⟨he, hw⟩ => ⟨he, by rw [← hw]; exact X, by rw [← hw]; exact Far.refl _ _⟩
theorem xnew_good (h : Int) (w : World) (hh : h = 1 ∨ h = 2) : Calls Try.prog 12 #[.int .i64 h] w fun e w' => ∃ B R, e = .returned (.tuple #[.pointer (some ⟨B, 0, none⟩), .int .i64 0]) ∧ XSt w' B R h.toNat [] ∧ w.heap.size ≤ B ∧ w.heap.size ≤ R ∧ B < w'.heap.size ∧ R < w'.heap.size ∧ Far (fun _ => False) w w' := by
  rcases hh with rfl | rfl
  · exact (L_int.new1 w).mono fun e w' ⟨he, hL, hF⟩ => ⟨_, _, he, hL, by omega, by omega, lt_of_blk hL.1, lt_of_blk hL.2, hF⟩
  · exact (L_int.new2 w).mono fun e w' ⟨he, hL, hF⟩ => ⟨_, _, he, hL, by omega, by omega, lt_of_blk hL.1, lt_of_blk hL.2, hF⟩
end Go.Proofs.Ytbniijmabebhoaa
