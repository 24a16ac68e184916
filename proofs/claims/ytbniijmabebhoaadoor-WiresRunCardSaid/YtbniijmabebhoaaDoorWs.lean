/- The wires of a law's own: what each call does to them; the chapter's examples. -/
import Derived.Test.YtbniijmabebhoaaDoorWiresNew
import Derived.Test.YtbniijmabebhoaaDoorPath
namespace Go.Proofs.YtbniijmabebhoaaDoor
open Go.RowKit
set_option linter.unusedVariables false
namespace Wr
open Mp
/-- Wires that the call itself has made: they lie in new blocks, and nothing that was there has turned. -/
structure Ws (w W : World) (A : Ad) (n : Nat) (H : List (Int → Option Int)) (g : List (Int × Int)) : Prop where
  wi : Wi W A n H g
  own : ∀ b, (Own A n b ∨ b = A.M1) → w.heap.size ≤ b
  bel : Below w.heap.size w W
section
variable {w W : World} {A : Ad} {n : Nat} {H : List (Int → Option Int)} {g : List (Int × Int)}
theorem below_false {a b c : World} {B : Nat} (h : Below B a b) (hB : B ≤ b.heap.size) (hf : Far (fun _ => False) b c) : Below B a c := Far.below h hf hB (fun _ e => e.elim)
theorem ws_new (n : Nat) (w W : World) (h1 : 4 ≤ n) (h2 : n ≤ 16) (hs : 0 < w.heap.size) (sg : Signs w) (hb : Below w.heap.size w W) :
    Calls Tryd.prog 16 #[.int .i64 (n : Int)] W fun e w' => ∃ A, e = .returned (.tuple #[ptr A.B, .int .i64 0]) ∧ Ws w w' A n [] [] := by
  have hz := hb.size
  refine (new_any n W h1 h2 (by omega) (sg.below hb hs)).mono fun e w' ⟨A, he, wi, lo, far⟩ => ⟨A, he, wi, fun b hb' => Nat.le_trans hz (lo b hb'), below_false hb hz far⟩
theorem Ws.size (h : Ws w W A n H g) : w.heap.size ≤ W.heap.size := h.bel.size
theorem Ws.m2 (h : Ws w W A n H g) : w.heap.size ≤ A.M2 := h.own _ (.inl (.inr (.inl rfl)))
theorem ws_give (h : Ws w W A n H g) (k x : Int) (hk : inB n k = true) : Calls Tryd.prog 18 #[ptr A.B, .int .i64 k, .int .i64 x] W fun e w' => e = .returned (.int .i64 0) ∧ Ws w w' A n H (upd k x g) :=
  (give_yes h.wi k x hk).mono fun e w' ⟨he, wi, far⟩ => ⟨he, wi, h.own, Far.below h.bel far h.size (fun b e => by rw [e]; exact h.m2)⟩
theorem ws_take (h : Ws w W A n H g) (k : Int) (hk : inB n k = true) : Calls Tryd.prog 20 #[ptr A.B, .int .i64 k] W fun e w' => e = .returned (.int .i64 0) ∧ Ws w w' A n H (del k g) :=
  (take_yes h.wi k hk).mono fun e w' ⟨he, wi, far⟩ => ⟨he, wi, h.own, Far.below h.bel far h.size (fun b e => by rw [e]; exact h.m2)⟩
theorem ws_end (h : Ws w W A n H g) (hH : H.length ≤ 1000) : Calls Tryd.prog 21 #[ptr A.B] W fun e w' => e = .returned (.int .i64 0) ∧ Ws w w' A n ((fun j => get g j) :: H) [] :=
  (end_any h.wi hH).mono fun e w' ⟨he, wi, far⟩ => ⟨he, wi, h.own, Far.below h.bel far h.size (fun b e => h.own b (.inl e))⟩
theorem Ws.drewN (h : Ws w W A n H g) (m : Nat) : Ws w (W.drewN m) A n H g := ⟨h.wi.drewN m, h.own, below_drewN h.bel m⟩
theorem ws_here (h : Ws w W A n H g) (hs : 0 < w.heap.size) (sg : Signs w) (d a hp : Int) (hd : 0 ≤ d) :
    Calls Tryd.prog 23 #[ptr A.B, .int .u8 d, .int .i64 a, .int .i64 hp] W fun e w' => e = .returned (.tuple #[.int .i64 ((here n H d a hp).getD 0), .bool (here n H d a hp).isSome]) ∧ Ws w w' A n H g :=
  (here_any h.wi (sg.below h.bel hs) d a hp hd).mono fun e w' ⟨he, m, hw⟩ => ⟨he, by rw [hw]; exact h.drewN m⟩
theorem ws_given (h : Ws w W A n H g) (k : Int) : Calls Tryd.prog 25 #[ptr A.B, .int .i64 k] W fun e w' => e = .returned (.tuple #[.int .i64 ((get g k).getD 0), .bool (get g k).isSome]) ∧ W = w' := given_any h.wi k
set_option maxRecDepth 100000 in
set_option maxHeartbeats 4000000 in
theorem wlives_any (w W : World) (hs : 0 < w.heap.size) (sg : Signs w) (hb : Below w.heap.size w W) : Calls Tryd.prog 15 #[] W fun e w' => e = .returned (.bool true) ∧ Below w.heap.size w w' := by
  have HS := hide (And.intro hs sg)
  have NW := hide (ws_new 4 w W (by omega) (by omega) hs sg hb)
  clear hs sg hb
  go_enter Tryd.func15, Tryd.ntmps15
  go_wp2_with fail
  refine NW.out.mono ?_
  rintro e w1 ⟨A, rfl, s1⟩
  have S1 := hide s1
  clear s1 NW
  go_wp2_with fail
  refine (ws_give S1.out 0 7 rfl).mono ?_
  rintro e w2 ⟨rfl, s2⟩
  have S2 := hide s2
  clear s2 S1
  go_wp2_with fail
  refine (ws_end S2.out (by decide)).mono ?_
  rintro e w3 ⟨rfl, s3⟩
  have S3 := hide s3
  clear s3 S2
  go_wp2_with fail
  have e1 : here 4 ((fun j => get (upd 0 7 []) j) :: []) 0 1 1 = some 7 := by decide
  have HE := hide (ws_here S3.out HS.out.1 HS.out.2 0 1 1 (by omega))
  rw [e1] at HE
  clear e1
  refine HE.out.mono ?_
  rintro e w4 ⟨rfl, s4⟩
  have S4 := hide s4
  clear s4 S3 HE
  go_wp2_with fail
  refine (ws_give S4.out 1 8 rfl).mono ?_
  rintro e w5 ⟨rfl, s5⟩
  have S5 := hide s5
  clear s5 S4
  go_wp2_with fail
  refine (ws_end S5.out (by simp)).mono ?_
  rintro e w6 ⟨rfl, s6⟩
  have S6 := hide s6
  clear s6 S5
  go_wp2_with fail
  refine (ws_end S6.out (by simp)).mono ?_
  rintro e w7 ⟨rfl, s7⟩
  have S7 := hide s7
  clear s7 S6
  go_wp2_with fail
  have e1 : here 4 ((fun j => get ([] : List (Int × Int)) j) :: (fun j => get (upd 1 8 []) j) :: (fun j => get (upd 0 7 []) j) :: []) 0 2 2 = some 8 := by decide
  have HE := hide (ws_here S7.out HS.out.1 HS.out.2 0 2 2 (by omega))
  rw [e1] at HE
  clear e1
  refine HE.out.mono ?_
  rintro e w8 ⟨rfl, s8⟩
  have S8 := hide s8
  clear s8 S7 HE
  go_wp2_with fail
  go_ret
  exact ⟨rfl, S8.out.bel⟩
end
end Wr
end Go.Proofs.YtbniijmabebhoaaDoor
