/- The wires and the reference, side by side. -/
import Derived.Test.YtbniijmabebhoaaDoorWRefE

import Derived.Deep.LoopGhost
import Derived.Deep.DeepCutAuto
namespace Go.Proofs.YtbniijmabebhoaaDoor
open Go.RowKit
set_option linter.unusedVariables false
namespace Wr
open Mp
section
variable {w W W' : World} {A : Ad} {Br O cap n : Nat} {rb : Nat → Nat} {H : List (Int → Option Int)} {g : List (Int × Int)} {G : Int → Option Int}
theorem not_own {b : Nat} {cs : Array Value} {t : TypeId} (h : Wi W A n H g) (hb : W.heap[b]? = some (.cells cs t (0, 0))) (h1 : t ≠ 53) (h2 : t ≠ 102) (h3 : t ≠ 105) : ¬ Own A n b := by
  rintro (rfl | rfl | ⟨j, hj, rfl | rfl⟩)
  · exact ty_ne hb h.st h1 rfl
  · exact map_ne h.m2 hb rfl
  · exact ty_ne hb (h.ln j hj).1 h2 rfl
  · exact ty_ne hb (h.ln j hj).2 h3 rfl
theorem not_m1 {b : Nat} {cs : Array Value} {t : TypeId} {f : Nat × Nat} (h : Wi W A n H g) (hb : W.heap[b]? = some (.cells cs t f)) : A.M1 ≠ b := by
  intro e
  have := h.m1
  unfold Lm at this
  rw [e, hb] at this
  cases this
/-- Where the wires turn, the reference stays. -/
theorem rf_own {S : Nat → Prop} (h : Wi W A n H g) (r : Rf W w.heap.size Br O cap rb n H G) (hf : Far S W W') (hS : ∀ k, S k → Own A n k) : Rf W' w.heap.size Br O cap rb n H G := by
  obtain ⟨cur, ho, _⟩ := r.out
  exact r.far hf (fun e => not_own h r.st (by decide) (by decide) (by decide) (hS _ e)) (fun e => not_own h ho (by decide) (by decide) (by decide) (hS _ e)) (fun i hi e => not_own h (r.row i hi) (by decide) (by decide) (by decide) (hS _ e))
/-- Where the reference turns, the wires stay. -/
theorem ws_rf {S : Nat → Prop} (h : Ws w W A n H g) (r : Rf W w.heap.size Br O cap rb n H G) (hf : Far S W W') (hS : ∀ k, S k → k = Br ∨ k = O ∨ ∃ i, i ≤ H.length ∧ k = rb i) : Ws w W' A n H g := by
  obtain ⟨cur, ho, hlo, _⟩ := r.out
  have nn : ∀ k, S k → A.M1 ≠ k ∧ ¬ Own A n k ∧ w.heap.size ≤ k := fun k hk => by
    rcases hS k hk with rfl | rfl | ⟨i, hi, rfl⟩
    · exact ⟨not_m1 h.wi r.st, not_own h.wi r.st (by decide) (by decide) (by decide), r.lo.1⟩
    · exact ⟨not_m1 h.wi ho, not_own h.wi ho (by decide) (by decide) (by decide), hlo⟩
    · exact ⟨not_m1 h.wi (r.row i hi), not_own h.wi (r.row i hi) (by decide) (by decide) (by decide), r.lo.2 i hi⟩
  exact ⟨h.wi.far hf (fun e => (nn _ e).1 rfl) (fun k hk e => (nn _ e).2.1 hk), h.own, Far.below h.bel hf h.size (fun k hk => (nn k hk).2.2)⟩
/-- The block of an act. -/
def Xk (W : World) (X : Nat) (a0 a1 a2 a3 a4 a5 : Int) : Prop := W.heap[X]? = some (.cells #[.int .u8 a0, .int .i64 a1, .int .i64 a2, .int .u8 a3, .int .i64 a4, .int .i64 a5] 32 (0, 0))
/-- The wires and the reference's, side by side. -/
structure Bo (w W : World) (A : Ad) (Br O cap : Nat) (rb : Nat → Nat) (n : Nat) (H : List (Int → Option Int)) (g : List (Int × Int)) (G : Int → Option Int) : Prop where
  ws : Ws w W A n H g
  rf : Rf W w.heap.size Br O cap rb n H G
theorem Bo.drewN (h : Bo w W A Br O cap rb n H g G) (m : Nat) : Bo w (W.drewN m) A Br O cap rb n H g G := ⟨h.ws.drewN m, ⟨h.rf.n4, h.rf.n16, h.rf.st, h.rf.own, h.rf.row, h.rf.inj, h.rf.lo⟩⟩
theorem Bo.new (h : Bo w W A Br O cap rb n H g G) (hf : Far (fun _ => False) W W') : Bo w W' A Br O cap rb n H g G :=
  ⟨⟨h.ws.wi.far hf (fun e => e) (fun _ _ e => e), h.ws.own, Far.below h.ws.bel hf h.ws.size (fun _ e => e.elim)⟩, h.rf.far hf (fun e => e) (fun e => e) (fun _ _ e => e)⟩
theorem Xk.own {S : Nat → Prop} {X : Nat} {a0 a1 a2 a3 a4 a5 : Int} (x : Xk W X a0 a1 a2 a3 a4 a5) (h : Wi W A n H g) (hf : Far S W W') (hS : ∀ k, S k → Own A n k) : Xk W' X a0 a1 a2 a3 a4 a5 :=
  (hf.block _ (lt_of_blk x) (fun e => not_own h x (by decide) (by decide) (by decide) (hS _ e))).trans x
theorem Xk.rf {S : Nat → Prop} {X : Nat} {a0 a1 a2 a3 a4 a5 : Int} (x : Xk W X a0 a1 a2 a3 a4 a5) (r : Rf W w.heap.size Br O cap rb n H G) (hf : Far S W W') (hS : ∀ k, S k → k = Br ∨ k = O ∨ ∃ i, i ≤ H.length ∧ k = rb i) : Xk W' X a0 a1 a2 a3 a4 a5 := by
  obtain ⟨cur, ho, _⟩ := r.out
  refine (hf.block _ (lt_of_blk x) (fun e => ?_)).trans x
  rcases hS _ e with e | e | ⟨i, hi, e⟩
  · exact ty_ne x r.st (by decide) e
  · exact ty_ne x ho (by decide) e
  · exact ty_ne x (r.row i hi) (by decide) e
variable {X : Nat} {a0 a1 a2 a3 a4 a5 : Int}
theorem bo_give (h : Bo w W A Br O cap rb n H g G) (x : Xk W X a0 a1 a2 a3 a4 a5) (k v : Int) (hk : inB n k = true) : Calls Tryd.prog 18 #[ptr A.B, .int .i64 k, .int .i64 v] W fun e w' => e = .returned (.int .i64 0) ∧ Bo w w' A Br O cap rb n H (upd k v g) G ∧ Xk w' X a0 a1 a2 a3 a4 a5 := by
  refine (give_yes h.ws.wi k v hk).mono fun e w' ⟨he, wi, far⟩ => ⟨he, ⟨⟨wi, h.ws.own, Far.below h.ws.bel far h.ws.size (fun b e => by rw [e]; exact h.ws.m2)⟩, rf_own h.ws.wi h.rf far (fun b e => .inr (.inl e))⟩, x.own h.ws.wi far (fun b e => .inr (.inl e))⟩
theorem bo_take (h : Bo w W A Br O cap rb n H g G) (x : Xk W X a0 a1 a2 a3 a4 a5) (k : Int) (hk : inB n k = true) : Calls Tryd.prog 20 #[ptr A.B, .int .i64 k] W fun e w' => e = .returned (.int .i64 0) ∧ Bo w w' A Br O cap rb n H (del k g) G ∧ Xk w' X a0 a1 a2 a3 a4 a5 := by
  refine (take_yes h.ws.wi k hk).mono fun e w' ⟨he, wi, far⟩ => ⟨he, ⟨⟨wi, h.ws.own, Far.below h.ws.bel far h.ws.size (fun b e => by rw [e]; exact h.ws.m2)⟩, rf_own h.ws.wi h.rf far (fun b e => .inr (.inl e))⟩, x.own h.ws.wi far (fun b e => .inr (.inl e))⟩
theorem bo_set (h : Bo w W A Br O cap rb n H g G) (x : Xk W X a0 a1 a2 a3 a4 a5) (hH : H.length ≤ 1000) (q : Nat) (o : Option Int) (hq : q < 4 * n) : Calls Tryd.prog 19 #[ptr Br, .int .i64 (q : Int), .agg #[.int .i64 (o.getD 0), .bool o.isSome]] W fun e w' => e = .returned (.int .i64 0) ∧ Bo w w' A Br O cap rb n H g (fun j => if j = q then o else G j) ∧ Xk w' X a0 a1 a2 a3 a4 a5 :=
  (rset_yes h.rf hH q o hq).mono fun e w' ⟨he, rf, far⟩ => ⟨he, ⟨ws_rf h.ws h.rf far (fun k e => .inr (.inr ⟨_, Nat.le_refl _, e⟩)), rf⟩, x.rf h.rf far (fun k e => .inr (.inr ⟨_, Nat.le_refl _, e⟩))⟩
theorem bo_set_no (h : Bo w W A Br O cap rb n H g G) (x : Xk W X a0 a1 a2 a3 a4 a5) (k v : Int) (b : Bool) (hk : inB n k = false) : Calls Tryd.prog 19 #[ptr Br, .int .i64 k, .agg #[.int .i64 v, .bool b]] W fun e w' => e = .returned (.int .i64 1) ∧ Bo w w' A Br O cap rb n H g G ∧ Xk w' X a0 a1 a2 a3 a4 a5 :=
  (rset_no h.rf k v b hk).mono fun e w' ⟨he, far⟩ => ⟨he, h.new far, (far.block _ (lt_of_blk x) (fun e => e)).trans x⟩
theorem bo_end (h : Bo w W A Br O cap rb n H g G) (x : Xk W X a0 a1 a2 a3 a4 a5) (hH : H.length ≤ 1000) : Calls Tryd.prog 21 #[ptr A.B] W fun e w' => e = .returned (.int .i64 0) ∧ Ws w w' A n ((fun j => get g j) :: H) [] ∧ Rf w' w.heap.size Br O cap rb n H G ∧ Xk w' X a0 a1 a2 a3 a4 a5 :=
  (end_any h.ws.wi hH).mono fun e w' ⟨he, wi, far⟩ => ⟨he, ⟨wi, h.ws.own, Far.below h.ws.bel far h.ws.size (fun b e => h.ws.own b (.inl e))⟩, rf_own h.ws.wi h.rf far (fun b e => e), x.own h.ws.wi far (fun b e => e)⟩
/-- The reference's tick ends, behind the wires'. -/
theorem bo_rend {H2 : List (Int → Option Int)} {g2 : List (Int × Int)} (s : Ws w W A n H2 g2) (r : Rf W w.heap.size Br O cap rb n H G) (x : Xk W X a0 a1 a2 a3 a4 a5) (hH : H.length ≤ 1000) : Calls Tryd.prog 22 #[ptr Br] W fun e w' => e = .returned (.tuple #[]) ∧ ∃ O' cap' rb', Ws w w' A n H2 g2 ∧ Rf w' w.heap.size Br O' cap' rb' n (G :: H) (fun _ => none) ∧ Xk w' X a0 a1 a2 a3 a4 a5 := by
  obtain ⟨cur, ho, hlo, _⟩ := r.out
  refine (rend_any r s.bel.size hH).mono fun e w' ⟨he, O', cap', rb', rf, far⟩ => ⟨he, O', cap', rb', ?_, rf, x.rf r far (fun k e => e.elim .inl (fun e => .inr (.inl e)))⟩
  have nn : ∀ k, (k = Br ∨ k = O) → A.M1 ≠ k ∧ ¬ Own A n k ∧ w.heap.size ≤ k := fun k hk => by
    rcases hk with rfl | rfl
    · exact ⟨not_m1 s.wi r.st, not_own s.wi r.st (by decide) (by decide) (by decide), r.lo.1⟩
    · exact ⟨not_m1 s.wi ho, not_own s.wi ho (by decide) (by decide) (by decide), hlo⟩
  exact ⟨s.wi.far far (fun e => (nn _ e).1 rfl) (fun k hk e => (nn _ e).2.1 hk), s.own, Far.below s.bel far s.size (fun k hk => (nn k hk).2.2)⟩
end
end Wr
end Go.Proofs.YtbniijmabebhoaaDoor
