/- wires.New at numbers. -/
import Derived.Test.YtbniijmabebhoaaDoorWires
import Derived.Deep.RegionHeld3
import Derived.Deep.DrawnRows
namespace Go.Proofs.YtbniijmabebhoaaDoor
open Go.RowKit
set_option linter.unusedVariables false
namespace Wr
open Mp
section
variable {w w' : World} {A : Ad} {n : Nat} {H : List (Int → Option Int)} {g : List (Int × Int)}
theorem Lm.congr {φ : Nat → Value} {M N : Nat} {f f' : Nat → Nat} (h : Lm φ w M f N) (hf : ∀ j, j < N → f j = f' j) : Lm φ w M f' N := by
  unfold Lm ents at h ⊢
  rw [h]
  congr 3
  refine List.map_congr_left fun k hk => ?_
  rw [hf k (by simpa using hk)]
/-- New's loop under way. -/
structure Mk (w wr : World) (A : Ad) (n k : Nat) : Prop where
  b1 : A.M1 = w.heap.size
  b2 : A.M2 = w.heap.size + 1
  b3 : A.B = w.heap.size + 1 + 1
  st : wr.heap[A.B]? = some (.cells #[.map (some A.M1), .int .i64 n, .map (some A.M2), .int .i64 0] 53 (0, 0))
  m1 : Lm ptr wr A.M1 A.ln k
  m2 : Am (Value.int .i64) wr A.M2 []
  ln : ∀ j, j < k → Ln wr 102 105 (A.ln j) (A.ro j) (hop j) (way (hop j) fun _ => none) 0
  lo : ∀ j, j < k → w.heap.size ≤ A.ln j ∧ w.heap.size ≤ A.ro j
  inj : ∀ i j, i < k → j < k → i ≠ j → A.ln i ≠ A.ln j ∧ A.ro i ≠ A.ro j
  far : Far (fun _ => False) w wr
theorem Mk.step {w wr w2 w3 : World} {A : Ad} {n k L R : Nat} (h : Mk w wr A n k) (hl : Ln w2 102 105 L R (hop k) (way (hop k) fun _ => none) 0) (hL : wr.heap.size ≤ L) (hR : wr.heap.size ≤ R) (F2 : Far (fun _ => False) wr w2)
    (lm : Lm ptr w3 A.M1 (fun j => if j = k then L else A.ln j) (k + 1)) (F3 : Far (fun b => b = A.M1) w2 w3) : Mk w w3 ⟨A.B, A.M1, A.M2, fun j => if j = k then L else A.ln j, fun j => if j = k then R else A.ro j⟩ n (k + 1) := by
  have hs := h.far.size
  have hB := lt_of_blk h.st
  have hM := h.m2.lt
  have e1 := h.b1
  have e2 := h.b2
  have e3 := h.b3
  refine ⟨e1, e2, e3, ?_, lm, ?_, fun j hj => ?_, fun j hj => ?_, fun i j hi hj hne => ?_, ?_⟩
  · exact (F3.block _ (lt_of_blk ((F2.block _ hB (fun e => e)).trans h.st)) (by show A.B ≠ A.M1; omega)).trans ((F2.block _ hB (fun e => e)).trans h.st)
  · exact (h.m2.far F2 (fun e => e)).far F3 (by show A.M2 ≠ A.M1; omega)
  · by_cases hjk : j = k
    · subst hjk
      simp only [if_true]
      exact hl.far F3 (by show L ≠ A.M1; omega) (by show R ≠ A.M1; omega)
    · simp only [if_neg hjk]
      have hl' := h.ln j (by omega)
      have hlo := h.lo j (by omega)
      have l1 : A.ln j ≠ A.M1 := fun e => by
        have h1 := hl'.1
        have h2 := h.m1
        unfold Lm at h2
        rw [e, h2] at h1
        cases h1
      have l2 : A.ro j ≠ A.M1 := fun e => by
        have h1 := hl'.2
        have h2 := h.m1
        unfold Lm at h2
        rw [e, h2] at h1
        cases h1
      exact (hl'.far F2 (fun e => e) (fun e => e)).far F3 l1 l2
  · by_cases hjk : j = k
    · simp only [if_pos hjk]; omega
    · simp only [if_neg hjk]; exact h.lo j (by omega)
  · have lt := fun j (hj : j < k) => And.intro (lt_of_blk (h.ln j hj).1) (lt_of_blk (h.ln j hj).2)
    by_cases hik : i = k
    · have hjk : ¬ j = k := by omega
      simp only [if_pos hik, if_neg hjk]
      have := lt j (by omega)
      omega
    · by_cases hjk : j = k
      · simp only [if_neg hik, if_pos hjk]
        have := lt i (by omega)
        omega
      · simp only [if_neg hik, if_neg hjk]
        exact h.inj i j (by omega) (by omega) hne
  · refine ⟨F3.os.trans (F2.os.trans h.far.os), F3.tape.trans (F2.tape.trans h.far.tape), F3.output.trans (F2.output.trans h.far.output), by have := F2.size; have := F3.size; omega, fun b hb _ => ?_⟩
    have := F2.size
    exact (F3.block b (by omega) (by show b ≠ A.M1; omega)).trans ((F2.block b (by omega) (fun e => e)).trans (h.far.block b hb (fun e => e)))
theorem Mk.push {w wr w2 : World} {A : Ad} {n k : Nat} (h : Mk w wr A n k) (F2 : Far (fun _ => False) wr w2) (L : Nat) :
    ∃ w3, (Instr.mapUpdate 48 (.map (some A.M1)) (.int .i64 (k : Int)) (ptr L)).run Tryd.prog w2 = .ok () w3 ∧ Lm ptr w3 A.M1 (fun j => if j = k then L else A.ln j) (k + 1) ∧ Far (fun b => b = A.M1) w2 w3 := by
  have h1 : Lm ptr w2 A.M1 (fun j => if j = k then L else A.ln j) k := Lm.congr (h.m1.far F2 (fun e => e)) (fun j hj => by rw [if_neg (by omega)])
  obtain ⟨w3, hr, h2, h3⟩ := h1.push (P := Tryd.prog) 48 3 83 Tryd.underlying48 Tryd.underlying3
  simp only [if_true] at hr
  exact ⟨w3, hr, h2, h3⟩
theorem far_drewN {S : Nat → Prop} {w w' : World} {m : Nat} (h : Far S (w.drewN m) w') : Far S w w' := ⟨h.os, h.tape, h.output, h.size, h.block⟩
theorem lnew_any (k : Nat) (W : World) : Calls Tryd.prog 47 #[.int .i64 ((k : Int) % 2 + 1)] W fun e w' => e = .returned (.tuple #[ptr (W.heap.size + 1), .int .i64 0]) ∧ Ln w' 102 105 (W.heap.size + 1) W.heap.size (hop k) (way (hop k) fun _ => none) 0 ∧ Far (fun _ => False) W w' := by
  have hk : hop k = k % 2 + 1 := rfl
  rcases Nat.mod_two_eq_zero_or_one k with h | h
  · rw [hk, h, show (k : Int) % 2 + 1 = 1 from by omega]
    exact L_int.new1 W
  · rw [hk, h, show (k : Int) % 2 + 1 = 2 from by omega]
    exact L_int.new2 W
theorem Mk.wi {w wr : World} {A : Ad} {n : Nat} (h : Mk w wr A n (4 * n)) (h4 : 4 ≤ n) (h16 : n ≤ 16) : Wi wr A n [] [] ∧ (∀ b, (Own A n b ∨ b = A.M1) → w.heap.size ≤ b) := by
  have e1 := h.b1
  have e2 := h.b2
  have e3 := h.b3
  refine ⟨⟨h4, h16, h.st, h.m1, h.m2, h.ln, h.inj, by omega, fun k x hk => by cases hk⟩, fun b hb => ?_⟩
  rcases hb with (hb | hb | ⟨j, hj, hb | hb⟩) | hb
  · omega
  · omega
  · rw [hb]; exact (h.lo j hj).1
  · rw [hb]; exact (h.lo j hj).2
  · omega
set_option maxRecDepth 100000 in
set_option maxHeartbeats 4000000 in
theorem new_any (n : Nat) (w : World) (h1 : 4 ≤ n) (h2 : n ≤ 16) (hs : 0 < w.heap.size) (sg : Signs w) : Calls Tryd.prog 16 #[.int .i64 (n : Int)] w fun e w' => ∃ A, e = .returned (.tuple #[ptr A.B, .int .i64 0]) ∧ Wi w' A n [] [] ∧ (∀ b, (Own A n b ∨ b = A.M1) → w.heap.size ≤ b) ∧ Far (fun _ => False) w w' := by
  have hd1 : decide ((n : Int) < 4) = false := decide_eq_false (by omega)
  have hd2 : decide ((16 : Int) < n) = false := decide_eq_false (by omega)
  have hmm := @run_makeMap Tryd.prog
  obtain ⟨W0, hW0⟩ : ∃ W0, ((w.alloc (.map #[] 0)).alloc (.map #[] 0)).alloc (.cells #[.map (some w.heap.size), .int .i64 n, .map (some (w.heap.size + 1)), .int .i64 0] 53) = W0 := ⟨_, rfl⟩
  have M0 := hide (show Mk w W0 ⟨w.heap.size + 1 + 1, w.heap.size, w.heap.size + 1, fun _ => 0, fun _ => 0⟩ n 0 from by
    subst hW0
    have z1 : (w.alloc (.map #[] 0)).heap.size = w.heap.size + 1 := alloc_size _ _
    have z2 : ((w.alloc (.map #[] 0)).alloc (.map #[] 0)).heap.size = w.heap.size + 1 + 1 := by rw [alloc_size, z1]
    refine ⟨rfl, rfl, rfl, ?_, ?_, ?_, fun j hj => by omega, fun j hj => by omega, fun i j hi => by omega, ?_⟩
    · have := heap_alloc_new ((w.alloc (.map #[] 0)).alloc (.map #[] 0)) (.cells #[.map (some w.heap.size), .int .i64 n, .map (some (w.heap.size + 1)), .int .i64 0] 53)
      rw [z2] at this
      exact this
    · exact ((Lm.made w _).far (S := fun _ => False) ((Far.refl _ _).alloc _) (fun e => e)).far (S := fun _ => False) ((Far.refl _ _).alloc _) (fun e => e)
    · have := (Am.nil (φ := Value.int .i64) (α := Int) (w.alloc (.map #[] 0)))
      rw [z1] at this
      exact this.far (S := fun _ => False) ((Far.refl _ _).alloc _) (fun e => e)
    · exact (((Far.refl _ w).alloc _).alloc _).alloc _)
  go_enter Tryd.func16, Tryd.ntmps16
  go_wp2_with fail
  clear hW0 hmm
  obtain ⟨B, hB⟩ : ∃ B, w.heap.size + 1 + 1 = B := ⟨_, rfl⟩
  obtain ⟨M1, hM1⟩ : ∃ B, w.heap.size = B := ⟨_, rfl⟩
  have HB := hide hB
  have HM1 := hide hM1
  rw [hM1] at hB
  clear hB hM1
  go_loopg [24] (4 * n) (fun gk i wr => ∃ k A, gk + k = 4 * n ∧ i = .int .i64 k ∧ Hid (Mk w wr A n k))
  case atStart => exact ⟨0, _, by omega, rfl, M0⟩
  case round =>
    obtain ⟨k, A, hgk, rfl, M⟩ := hrel
    clear M0
    have eB : A.B = w.heap.size + 1 + 1 := M.out.b3
    have eM : A.M1 = w.heap.size := M.out.b1
    by_cases hlt : k < 4 * n
    · have hq : (0 : Int) ≤ k := by omega
      have hq1 : (k : Int) < 4 * n := by omega
      have sgr : Signs wr := ⟨cell_far' M.out.far sg.1 (fun e => e), cell_far' M.out.far sg.2 (fun e => e)⟩
      have EN := hide (ends_good n k wr (by simp [Rg.endsB]; omega) sgr)
      have cM := row_cell M.out.st 0
      rw [eB, eM] at cM
      go_wp2_with fail
      refine EN.out.mono ?_
      rintro e w1 ⟨rfl, m, rfl⟩
      go_wp2_with fail
      have MP := hide (fun w2 (F : Far (fun _ => False) wr w2) => M.out.push F (wr.heap.size + 1))
      rw [eM] at MP
      obtain ⟨h, hh⟩ : ∃ h : Int, (k : Int) % 2 + 1 = h := ⟨_, rfl⟩
      have LN := hide (fun W => lnew_any k W)
      rw [hh] at LN ⊢
      clear hh EN
      have cMm : (wr.drewN m).cell? ⟨w.heap.size + 1 + 1, 0, none⟩ = some (.map (some w.heap.size)) := cM
      go_region_held3 (fun W => W.cell? ⟨w.heap.size + 1 + 1, 0, none⟩ = some (.map (some w.heap.size)))
        (first | assumption | go_keep)
        (first | (go_at_call 47; (with_reducible refine (LN.out _).mono ?_); rintro e w2 ⟨rfl, L2, F2⟩; have F2 := hide (far_drewN F2); have L2 := hide L2; have c2 := cell_far' F2.out cM (fun e => e); obtain ⟨w3, hup, lm3, F3⟩ := MP.out w2 F2.out; have lm3 := hide lm3; have c3 := cell_far' F3 c2 (fun e => by have e : w.heap.size + 1 + 1 = w.heap.size := e; omega); have F3 := hide F3))
      go_wp2_with fail
      go_roundg (gk - 1)
      case measure => omega
      case rel => exact ⟨k + 1, _, by omega, by go_num, M.out.step (L := wr.heap.size + 1) (R := wr.heap.size) L2.out (Nat.le_succ _) (Nat.le_refl _) F2.out (by rw [eM]; exact lm3.out) (by rw [eM]; exact F3.out)⟩
    · obtain rfl : k = 4 * n := by omega
      go_wp2_with fail
      go_ret2
      obtain ⟨x1, x2⟩ := M.out.wi h1 h2
      have e5 : ptr A.B = .pointer (some ⟨w.heap.size + 1 + 1, 0, none⟩) := by rw [eB]
      exact ⟨A, by rw [e5]; rfl, x1, x2, M.out.far⟩
theorem new_bad (n : Int) (w : World) (h : n < 4 ∨ 16 < n) : Calls Tryd.prog 16 #[.int .i64 n] w fun e w' => e = .returned (.tuple #[.pointer none, .int .i64 1]) ∧ w = w' := by
  obtain ⟨b1, hb1⟩ : ∃ b, decide (n < 4) = b := ⟨_, rfl⟩
  obtain ⟨b2, hb2⟩ : ∃ b, decide (16 < n) = b := ⟨_, rfl⟩
  have hor : b1 = true ∨ (b1 = false ∧ b2 = true) := by
    subst hb1; subst hb2
    simp only [decide_eq_true_eq, decide_eq_false_iff_not]
    omega
  clear h
  rcases hor with rfl | ⟨rfl, rfl⟩ <;>
  · go_enter Tryd.func16, Tryd.ntmps16
    go_wp2_with fail
    go_ret2
    exact ⟨rfl, rfl⟩
end
end Wr
end Go.Proofs.YtbniijmabebhoaaDoor
