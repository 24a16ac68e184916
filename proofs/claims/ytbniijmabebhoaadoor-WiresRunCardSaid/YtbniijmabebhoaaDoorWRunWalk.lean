/- The walk of WiresRun: whatever links are given, and taken, tick by tick, what is here, and was given, is the reference's; nothing that was there has turned. -/
import Derived.Test.YtbniijmabebhoaaDoorWBoth
import Derived.Deep.RegionHeld3
import Derived.Deep.DrawnRows
import Derived.BigQuiet
import Derived.Deep.QuietTactic
import Derived.Deep.LoopGhost
import Derived.Deep.DeepCutAuto
import Derived.Deep.CutBlock
namespace Go.Proofs.YtbniijmabebhoaaDoor
open Go.RowKit
set_option linter.unusedVariables false
namespace Wr
open Mp
/-- The acts that came in. -/
def Acts (w : World) (A : Option Addr) (len : Nat) : Prop := ∀ i, i < len → ∃ ad, A = some ad ∧ ∃ a0 a1 a2 a3 a4 a5 : Int, 0 ≤ a0 ∧ a0 ≤ 255 ∧ 0 ≤ a3 ∧ a3 ≤ 255 ∧
  w.cell? (ad.add (i * 6)) = some (.int .u8 a0) ∧ w.cell? (ad.add (i * 6 + 1)) = some (.int .i64 a1) ∧ w.cell? (ad.add (i * 6 + 2)) = some (.int .i64 a2) ∧ w.cell? (ad.add (i * 6 + 3)) = some (.int .u8 a3) ∧ w.cell? (ad.add (i * 6 + 4)) = some (.int .i64 a4) ∧ w.cell? (ad.add (i * 6 + 5)) = some (.int .i64 a5)
theorem add_more (ad : Addr) (i j : Nat) (hj : j ≠ 0) : ad.add (i + j) = ⟨(ad.add i).block, (ad.add i).off + j, none⟩ := by
  unfold Addr.add
  by_cases hi : i = 0
  · subst hi
    simp [hj]
  · simp [hi, hj, Nat.add_assoc]
theorem Bo.congr {w W : World} {A : Ad} {Br O cap n : Nat} {rb : Nat → Nat} {H : List (Int → Option Int)} {g : List (Int × Int)} {G G' : Int → Option Int} (h : Bo w W A Br O cap rb n H g G) (e : ∀ j, G j = G' j) : Bo w W A Br O cap rb n H g G' := by
  have : G = G' := funext e
  subst this
  exact h
theorem Xk.new {W W' : World} {X : Nat} {a0 a1 a2 a3 a4 a5 : Int} (x : Xk W X a0 a1 a2 a3 a4 a5) (hf : Far (fun _ => False) W W') : Xk W' X a0 a1 a2 a3 a4 a5 := (hf.block _ (lt_of_blk x) (fun e => e)).trans x
theorem bo_rgiven {w W : World} {A : Ad} {Br O cap n : Nat} {rb : Nat → Nat} {H : List (Int → Option Int)} {g : List (Int × Int)} (h : Bo w W A Br O cap rb n H g (fun j => get g j)) (hH : H.length ≤ 1000) (k : Int) :
    Calls Tryd.prog 26 #[ptr Br, .int .i64 k] W fun e w' => e = .returned (.tuple #[.int .i64 ((get g k).getD 0), .bool (get g k).isSome]) ∧ Far (fun _ => False) W w' := by
  cases hin : inB n k with
  | true =>
    obtain ⟨q, hq⟩ : ∃ q : Nat, k = (q : Int) := ⟨k.toNat, by have := (inB_iff n k).1 hin; omega⟩
    subst hq
    exact rgiven_yes h.rf hH q (by have := (inB_iff n (q : Int)).1 hin; omega)
  | false =>
    have hg : get g k = none := by
      cases hg : get g k with
      | none => rfl
      | some x => have := (inB_iff n k).2 (h.ws.wi.keys k x hg); rw [hin] at this; cases this
    rw [hg]
    exact rgiven_no h.rf k hin
set_option maxRecDepth 100000 in
set_option maxHeartbeats 16000000 in
theorem run_walk (nn : Int) (C : Option Addr) (len cp : Nat) (w : World) (hlen : len ≤ 300) (hA : Acts w C len) (hs : 0 < w.heap.size) (sg : Signs w) :
    Calls Tryd.prog 3 #[.int .i64 nn, .slice C len cp] w fun e w' => e = .returned (.bool true) ∧ Below w.heap.size w w' := by
  have hd0 : decide ((300 : Int) < len) = false := decide_eq_false (by omega)
  have HS := hide (And.intro hs sg)
  by_cases hbad : nn < 4 ∨ 16 < nn
  · have N1 := hide (new_bad nn w hbad)
    have N2 := hide (rnew_bad nn w hbad)
    clear hs sg hA hbad
    go_enter Tryd.func3, Tryd.ntmps3
    go_wp2_with fail
    refine N1.out.mono ?_
    rintro e w' ⟨rfl, rfl⟩
    go_wp2_with fail
    refine N2.out.mono ?_
    rintro e w' ⟨rfl, rfl⟩
    go_wp2_with fail
    refine (wlives_any w w HS.out.1 HS.out.2 (Below.refl _ _)).mono ?_
    rintro e w8 ⟨rfl, b8⟩
    have B8 := hide b8
    clear b8
    go_wp2_with fail
    go_ret
    exact ⟨rfl, B8.out⟩
  · obtain ⟨n, hn⟩ : ∃ n : Nat, nn = (n : Int) := ⟨nn.toNat, by omega⟩
    subst hn
    have hn4 : 4 ≤ n := by omega
    have hn16 : n ≤ 16 := by omega
    have HA := hide hA
    clear hs sg hA hbad
    go_enter Tryd.func3, Tryd.ntmps3
    go_wp2_with fail
    refine (ws_new n w w hn4 hn16 HS.out.1 HS.out.2 (Below.refl _ _)).mono ?_
    rintro e w1 ⟨A, rfl, s1⟩
    have S1 := hide s1
    clear s1
    go_wp2_with fail
    refine (rnew_any n w1 hn4 hn16).mono ?_
    rintro e w2 ⟨Br, O, cap, rb, rfl, r2, f2⟩
    have BO := hide (show Bo w w2 A Br O cap rb n [] [] (fun _ => none) from
      ⟨⟨S1.out.wi.far f2 (fun e => e) (fun _ _ e => e), S1.out.own, Far.below S1.out.bel f2 S1.out.size (fun _ e => e.elim)⟩, ⟨r2.n4, r2.n16, r2.st, ⟨r2.own.1, by
        rcases r2.own.2 with h0 | ⟨g, c, cur, e, hb, rest⟩
        · exact .inl h0
        · exact .inr ⟨g, c, cur, e, Nat.le_trans S1.out.size hb, rest⟩⟩, r2.row, r2.inj, Nat.le_trans S1.out.size r2.lo.1, fun i hi => Nat.le_trans S1.out.size (r2.lo.2 i hi)⟩⟩)
    clear r2 f2 S1
    go_wp2_with fail
    go_loopg [9] len (fun gk i wr => ∃ (k : Nat) (O cap : Nat) (rb : Nat → Nat) (H : List (Int → Option Int)) (g : List (Int × Int)), gk + k = len ∧ i = .int .i64 k ∧ Hid (H.length ≤ k) ∧ Hid (Bo w wr A Br O cap rb n H g (fun j => get g j)))
    case atStart => exact ⟨0, O, cap, rb, [], [], by omega, rfl, Nat.le_refl _, BO⟩
    case round =>
      obtain ⟨k, O, cap, rb, H, g, hgk, rfl, HL, B⟩ := hrel
      clear BO
      by_cases hlt : k < len
      · obtain ⟨ad, rfl, a0, a1, a2, a3, a4, a5, h0, h0', h3, h3', c0, c1, c2, c3, c4, c5⟩ := HA.out k hlt
        have d0 := (B.out.ws.bel.cell (lt_of_cell c0)).trans c0
        have d1 := (B.out.ws.bel.cell (lt_of_cell c1)).trans c1
        have d2 := (B.out.ws.bel.cell (lt_of_cell c2)).trans c2
        have d3 := (B.out.ws.bel.cell (lt_of_cell c3)).trans c3
        have d4 := (B.out.ws.bel.cell (lt_of_cell c4)).trans c4
        have d5 := (B.out.ws.bel.cell (lt_of_cell c5)).trans c5
        rw [add_more _ _ _ (by decide)] at d1 d2 d3 d4 d5
        clear c0 c1 c2 c3 c4 c5
        have hq0 : (0 : Int) ≤ k := by omega
        have hq1 : (k : Int) < len := by omega
        have B1 := hide (B.out.new ((Far.refl _ wr).alloc (.cells #[.int .u8 a0, .int .i64 a1, .int .i64 a2, .int .u8 a3, .int .i64 a4, .int .i64 a5] 32)))
        have X1 := hide (show Xk _ wr.heap.size a0 a1 a2 a3 a4 a5 from heap_alloc_new wr (.cells #[.int .u8 a0, .int .i64 a1, .int .i64 a2, .int .u8 a3, .int .i64 a4, .int .i64 a5] 32))
        obtain ⟨r, hr, hr0, hr6⟩ : ∃ r, a0 % 6 = r ∧ 0 ≤ r ∧ r < 6 := ⟨_, rfl, by omega, by omega⟩
        go_upto_block 2 with (fail)
        rw [hr]
        clear d0 d1 d2 d3 d4 d5 hr
        generalize wr.alloc (.cells #[.int .u8 a0, .int .i64 a1, .int .i64 a2, .int .u8 a3, .int .i64 a4, .int .i64 a5] 32) = W0 at B1 X1 ⊢
        generalize wr.heap.size = X at X1 ⊢
        go_cut [] (fun wx => ∃ (O cap : Nat) (rb : Nat → Nat) (H : List (Int → Option Int)) (g : List (Int × Int)), Hid (H.length ≤ k + 1) ∧ Hid (Bo w wx A Br O cap rb n H g (fun j => get g j)) ∧ Hid (Xk wx X a0 a1 a2 a3 a4 a5))
        case first =>
          have HLk := HL.out
          have c1 : W0.cell? ⟨X, 1, none⟩ = some (.int .i64 a1) := row_cell X1.out 1
          have c2 : W0.cell? ⟨X, 2, none⟩ = some (.int .i64 a2) := row_cell X1.out 2
          have give : (r = 0 ∨ r = 1) ∨ r = 2 ∨ ((r == 0) = false ∧ (r == 1) = false ∧ (r == 2) = false) := by
            simp
            omega
          rcases give with hr | rfl | ⟨e0, e1, e2⟩
          · cases hin : inB n a1 with
            | true =>
              obtain ⟨q, hq⟩ : ∃ q : Nat, a1 = (q : Int) := ⟨a1.toNat, by have := (inB_iff n a1).1 hin; omega⟩
              subst hq
              have hq4 : q < 4 * n := by have := (inB_iff n (q : Int)).1 hin; omega
              have GV := hide (fun W (f : Far (fun _ => False) W0 W) => bo_give (B1.out.new f) (X1.out.new f) (q : Int) a2 hin)
              have SV := hide (show ∀ (W1 W : World) (g' : List (Int × Int)), Bo w W1 A Br O cap rb n H g' (fun j => get g j) → Xk W1 X a0 q a2 a3 a4 a5 → Far (fun _ => False) W1 W → Calls Tryd.prog 19 #[ptr Br, .int .i64 (q : Int), .agg #[.int .i64 a2, .bool true]] W fun e w' => e = .returned (.int .i64 0) ∧ Bo w w' A Br O cap rb n H g' (fun j => if j = q then some a2 else get g j) ∧ Xk w' X a0 q a2 a3 a4 a5 from
                fun W1 W g' b x f => bo_set (b.new f) (x.new f) (by omega) q (some a2) hq4)
              clear hin
              rcases hr with rfl | rfl <;>
              · as_aux_lemma =>
                go_wp2_with fail
                go_region_held3 (fun W => W.cell? ⟨X, 1, none⟩ = some (.int .i64 q) ∧ W.cell? ⟨X, 2, none⟩ = some (.int .i64 a2))
                  (first | exact ⟨by assumption, by assumption⟩ | go_keep)
                  (first
                    | (go_at_call 18; (with_reducible refine (GV.out _ (by first | exact (Far.refl _ _).drew | exact (Far.refl _ _).drewN _ | exact Far.refl _ _)).mono ?_); rintro e w3 ⟨rfl, b3, x3⟩; have k1 := row_cell x3 1; have k2 := row_cell x3 2; have B3 := hide b3; have X3 := hide x3; clear b3 x3)
                    | (go_at_call 19; (with_reducible refine (SV.out _ _ _ B3.out X3.out (by first | exact (Far.refl _ _).drew | exact (Far.refl _ _).drewN _ | exact Far.refl _ _)).mono ?_); rintro e w4 ⟨rfl, b4, x4⟩; have k3 := row_cell x4 1; have k4 := row_cell x4 2; have B4 := hide b4; have X4 := hide x4; clear b4 x4))
                go_wp2_with fail
                go_meet
                exact ⟨O, cap, rb, H, _, by show H.length ≤ k + 1; omega, B4.out.congr (fun j => (get_upd g q a2 j).symm), X4⟩
            | false =>
              have GV := hide (fun W (f : Far (fun _ => False) W0 W) => (give_no (B1.out.new f).ws.wi a1 a2 hin).mono (R' := fun e w' => e = .returned (.int .i64 1) ∧ Bo w w' A Br O cap rb n H g (fun j => get g j) ∧ Xk w' X a0 a1 a2 a3 a4 a5) (fun e w' ⟨he, hw⟩ => ⟨he, by rw [← hw]; exact B1.out.new f, by rw [← hw]; exact X1.out.new f⟩))
              have SV := hide (fun (W1 W : World) (g' : List (Int × Int)) (b : Bo w W1 A Br O cap rb n H g' (fun j => get g j)) (x : Xk W1 X a0 a1 a2 a3 a4 a5) (f : Far (fun _ => False) W1 W) => bo_set_no (b.new f) (x.new f) a1 a2 true hin)
              clear hin
              rcases hr with rfl | rfl <;>
              · as_aux_lemma =>
                go_wp2_with fail
                go_region_held3 (fun W => W.cell? ⟨X, 1, none⟩ = some (.int .i64 a1) ∧ W.cell? ⟨X, 2, none⟩ = some (.int .i64 a2))
                  (first | exact ⟨by assumption, by assumption⟩ | go_keep)
                  (first
                    | (go_at_call 18; (with_reducible refine (GV.out _ (by first | exact (Far.refl _ _).drew | exact (Far.refl _ _).drewN _ | exact Far.refl _ _)).mono ?_); rintro e w3 ⟨rfl, b3, x3⟩; have k1 := row_cell x3 1; have k2 := row_cell x3 2; have B3 := hide b3; have X3 := hide x3; clear b3 x3)
                    | (go_at_call 19; (with_reducible refine (SV.out _ _ _ B3.out X3.out (by first | exact (Far.refl _ _).drew | exact (Far.refl _ _).drewN _ | exact Far.refl _ _)).mono ?_); rintro e w4 ⟨rfl, b4, x4⟩; have k3 := row_cell x4 1; have k4 := row_cell x4 2; have B4 := hide b4; have X4 := hide x4; clear b4 x4))
                go_wp2_with fail
                go_meet
                exact ⟨O, cap, rb, H, _, by show H.length ≤ k + 1; omega, B4.out, X4⟩
          · cases hin : inB n a1 with
            | true =>
              obtain ⟨q, hq⟩ : ∃ q : Nat, a1 = (q : Int) := ⟨a1.toNat, by have := (inB_iff n a1).1 hin; omega⟩
              subst hq
              have hq4 : q < 4 * n := by have := (inB_iff n (q : Int)).1 hin; omega
              have GV := hide (fun W (f : Far (fun _ => False) W0 W) => bo_take (B1.out.new f) (X1.out.new f) (q : Int) hin)
              have SV := hide (show ∀ (W1 W : World) (g' : List (Int × Int)), Bo w W1 A Br O cap rb n H g' (fun j => get g j) → Xk W1 X a0 q a2 a3 a4 a5 → Far (fun _ => False) W1 W → Calls Tryd.prog 19 #[ptr Br, .int .i64 (q : Int), .agg #[.int .i64 0, .bool false]] W fun e w' => e = .returned (.int .i64 0) ∧ Bo w w' A Br O cap rb n H g' (fun j => if j = q then none else get g j) ∧ Xk w' X a0 q a2 a3 a4 a5 from
                fun W1 W g' b x f => bo_set (b.new f) (x.new f) (by omega) q none hq4)
              have ND := hide B1.out.ws.wi.nodup
              clear hin c2
              as_aux_lemma =>
                go_wp2_with fail
                go_region_held3 (fun W => W.cell? ⟨X, 1, none⟩ = some (.int .i64 q))
                  (first | assumption | go_keep)
                  (first
                    | (go_at_call 20; (with_reducible refine (GV.out _ (by first | exact (Far.refl _ _).drew | exact (Far.refl _ _).drewN _ | exact Far.refl _ _)).mono ?_); rintro e w3 ⟨rfl, b3, x3⟩; have k1 := row_cell x3 1; have k2 := row_cell x3 2; have B3 := hide b3; have X3 := hide x3; clear b3 x3)
                    | (go_at_call 19; (with_reducible refine (SV.out _ _ _ B3.out X3.out (by first | exact (Far.refl _ _).drew | exact (Far.refl _ _).drewN _ | exact Far.refl _ _)).mono ?_); rintro e w4 ⟨rfl, b4, x4⟩; have k3 := row_cell x4 1; have k4 := row_cell x4 2; have B4 := hide b4; have X4 := hide x4; clear b4 x4))
                go_wp2_with fail
                go_meet
                exact ⟨O, cap, rb, H, _, by show H.length ≤ k + 1; omega, B4.out.congr (fun j => (get_del g q ND.out j).symm), X4⟩
            | false =>
              have GV := hide (fun W (f : Far (fun _ => False) W0 W) => (take_no (B1.out.new f).ws.wi a1 hin).mono (R' := fun e w' => e = .returned (.int .i64 1) ∧ Bo w w' A Br O cap rb n H g (fun j => get g j) ∧ Xk w' X a0 a1 a2 a3 a4 a5) (fun e w' ⟨he, hw⟩ => ⟨he, by rw [← hw]; exact B1.out.new f, by rw [← hw]; exact X1.out.new f⟩))
              have SV := hide (fun (W1 W : World) (g' : List (Int × Int)) (b : Bo w W1 A Br O cap rb n H g' (fun j => get g j)) (x : Xk W1 X a0 a1 a2 a3 a4 a5) (f : Far (fun _ => False) W1 W) => bo_set_no (b.new f) (x.new f) a1 0 false hin)
              clear hin c2
              as_aux_lemma =>
                go_wp2_with fail
                go_region_held3 (fun W => W.cell? ⟨X, 1, none⟩ = some (.int .i64 a1))
                  (first | assumption | go_keep)
                  (first
                    | (go_at_call 20; (with_reducible refine (GV.out _ (by first | exact (Far.refl _ _).drew | exact (Far.refl _ _).drewN _ | exact Far.refl _ _)).mono ?_); rintro e w3 ⟨rfl, b3, x3⟩; have k1 := row_cell x3 1; have k2 := row_cell x3 2; have B3 := hide b3; have X3 := hide x3; clear b3 x3)
                    | (go_at_call 19; (with_reducible refine (SV.out _ _ _ B3.out X3.out (by first | exact (Far.refl _ _).drew | exact (Far.refl _ _).drewN _ | exact Far.refl _ _)).mono ?_); rintro e w4 ⟨rfl, b4, x4⟩; have k3 := row_cell x4 1; have k4 := row_cell x4 2; have B4 := hide b4; have X4 := hide x4; clear b4 x4))
                go_wp2_with fail
                go_meet
                exact ⟨O, cap, rb, H, _, by show H.length ≤ k + 1; omega, B4.out, X4⟩
          · as_aux_lemma =>
              clear c1 c2
              go_wp2_with fail
              refine (bo_end B1.out X1.out (by omega)).mono ?_
              rintro e w3 ⟨rfl, s3, r3, x3⟩
              have S3 := hide s3
              have R3 := hide r3
              have X3 := hide x3
              clear s3 r3 x3
              go_wp2_with fail
              refine (bo_rend S3.out R3.out X3.out (by omega)).mono ?_
              rintro e w4 ⟨rfl, O4, cap4, rb4, s4, r4, x4⟩
              have B4 := hide (show Bo w w4 A Br O4 cap4 rb4 n ((fun j => get g j) :: H) [] (fun j => get [] j) from ⟨s4, r4⟩)
              have X4 := hide x4
              clear s4 r4 x4
              go_wp2_with fail
              go_meet
              exact ⟨O4, cap4, rb4, _, [], by show List.length _ ≤ k + 1; rw [List.length_cons]; omega, B4, X4⟩
        case rest =>
          obtain ⟨O, cap, rb, H, g, HL, B, XX⟩ := hcut
          have x1 : wc.cell? ⟨X, 1, none⟩ = some (.int .i64 a1) := row_cell XX.out 1
          have x3 : wc.cell? ⟨X, 3, none⟩ = some (.int .u8 a3) := row_cell XX.out 3
          have x4 : wc.cell? ⟨X, 4, none⟩ = some (.int .i64 a4) := row_cell XX.out 4
          have x5 : wc.cell? ⟨X, 5, none⟩ = some (.int .i64 a5) := row_cell XX.out 5
          have H1 := hide (fun W (b : Bo w W A Br O cap rb n H g (fun j => get g j)) => here_any b.ws.wi (HS.out.2.below b.ws.bel HS.out.1) a3 a4 a5 h3)
          have H2 := hide (fun W (b : Bo w W A Br O cap rb n H g (fun j => get g j)) => rhere_any b.rf (by have := HL.out; omega) a3 a4 a5 h3)
          have G1 := hide (fun W (b : Bo w W A Br O cap rb n H g (fun j => get g j)) => given_any b.ws.wi a1)
          have G2 := hide (fun W (b : Bo w W A Br O cap rb n H g (fun j => get g j)) => bo_rgiven b (by have := HL.out; omega) a1)
          have TK := hide (fun W (b : Bo w W A Br O cap rb n H g (fun j => get g j)) => ticks_any b.ws.wi)
          obtain ⟨v1, hv1⟩ : ∃ v, (here n H a3 a4 a5).getD 0 = v := ⟨_, rfl⟩
          obtain ⟨v2, hv2⟩ : ∃ v, (here n H a3 a4 a5).isSome = v := ⟨_, rfl⟩
          obtain ⟨v3, hv3⟩ : ∃ v, (get g a1).getD 0 = v := ⟨_, rfl⟩
          obtain ⟨v4, hv4⟩ : ∃ v, (get g a1).isSome = v := ⟨_, rfl⟩
          rw [hv1, hv2] at H1 H2
          rw [hv3, hv4] at G1 G2
          obtain ⟨L, hL⟩ : ∃ L, H.length = L := ⟨_, rfl⟩
          have CL := hide (fun W (b : Bo w W A Br O cap rb n H g (fun j => get g j)) => show W.cell? ⟨Br, 1, none⟩ = some (.slice (some ⟨O, 0, none⟩) (L + 1) cap) from by rw [← hL]; exact row_cell b.rf.st 1)
          rw [hL] at TK
          have hLk : L ≤ 400 := by have := HL.out; omega
          have w1' : IntKind.i64.wrap (L : Int) = (L : Int) := by rw [IntKind.wrap_i64]; omega
          have w2' : IntKind.i64.wrap ((L : Int) + 1 - 1) = (L : Int) := by rw [IntKind.wrap_i64]; omega
          clear hv1 hv2 hv3 hv4 hL
          go_wp2_with fail
          refine (H1.out _ B.out).mono ?_
          rintro e w5 ⟨rfl, m5, rfl⟩
          have B5 := hide (B.out.drewN m5)
          go_wp2_with fail
          refine (H2.out _ B5.out).mono ?_
          rintro e w6 ⟨rfl, m6, rfl⟩
          have B6 := hide (B5.out.drewN m6)
          go_wp2_with fail
          refine (G1.out _ (by first | exact B6.out | exact B.out.drewN _)).mono ?_
          rintro e w' ⟨rfl, hw⟩
          subst hw
          go_wp2_with fail
          refine (G2.out _ (by first | exact B6.out | exact B.out.drewN _)).mono ?_
          rintro e w7 ⟨rfl, f7⟩
          have B7 := hide (B.out.new (far_drewN f7))
          have cl := CL.out _ B7.out
          clear f7
          go_wp2_with fail
          go_quiet ((go_at_call 27; exact Calls.quiet_of_same (flipw (TK.out _ (B7.out.drewN _)))))
          go_wp2_with fail
          go_roundg (gk - 1)
          case measure => omega
          case rel => exact ⟨k + 1, O, cap, rb, H, g, by omega, by go_num, HL, B7.out.drewN _⟩
      · obtain rfl : k = len := by omega
        go_wp2_with fail
        refine (wlives_any w _ HS.out.1 HS.out.2 B.out.ws.bel).mono ?_
        rintro e w8 ⟨rfl, b8⟩
        have B8 := hide b8
        clear b8
        go_wp2_with fail
        go_ret
        exact ⟨rfl, B8.out⟩
theorem run_long (nn : Int) (C : Option Addr) (len cp : Nat) (w : World) (hl : 300 < len) (hm : len ≤ maxLen) (hs : 0 < w.heap.size) (sg : Signs w) :
    Calls Tryd.prog 3 #[.int .i64 nn, .slice C len cp] w fun e w' => e = .returned (.bool true) ∧ Below w.heap.size w w' := by
  unfold maxLen at hm
  have h1 : (300 : Int) < len := by omega
  have LI := hide (wlives_any w w hs sg (Below.refl _ _))
  clear hs sg
  go_enter Tryd.func3, Tryd.ntmps3
  go_wp2_with fail
  refine LI.out.mono ?_
  rintro e w' ⟨rfl, hb⟩
  have HB := hide hb
  clear hb
  go_wp2_with fail
  go_ret
  exact ⟨rfl, HB.out⟩
end Wr
end Go.Proofs.YtbniijmabebhoaaDoor
