/- The walk of WiresTrack: what is handed on at once is at a node as many ticks later as that is far; nothing that was there has turned. -/
import Derived.Test.YtbniijmabebhoaaDoorWPlain

import Derived.Deep.LoopGhost
import Derived.Deep.DeepCutAuto
namespace Go.Proofs.YtbniijmabebhoaaDoor
open Go.RowKit
set_option linter.unusedVariables false
namespace Wr
open Mp
/-- Where q hops lead. -/
def pos (n d a h : Int) : Nat → Int
  | 0 => a
  | q + 1 => Rg.step n d (pos n d a h q) h
theorem pos_in (n d a h : Int) (hn : 4 ≤ n) (hn' : n ≤ 16) (hd : 0 ≤ d) (hd' : d ≤ 1) (ha : 0 ≤ a) (ha' : a < n) (hh : h = 1 ∨ h = 2) : ∀ q, 0 ≤ pos n d a h q ∧ pos n d a h q < n
  | 0 => ⟨ha, ha'⟩
  | q + 1 => by
    obtain ⟨h1, h2⟩ := pos_in n d a h hn hn' hd hd' ha ha' hh q
    obtain ⟨h3, h4, _⟩ := step_back n d (pos n d a h q) h hn hn' hd hd' h1 h2 hh
    exact ⟨h3, h4⟩
theorem pos_eq (n d a h : Int) (hn : 4 ≤ n) (hn' : n ≤ 16) (hd : 0 ≤ d) (hd' : d ≤ 1) (ha : 0 ≤ a) (ha' : a < n) (hh : h = 1 ∨ h = 2) : ∀ q : Nat, pos n d a h q = Rg.step n d a ((q : Int) * h) := by
  have r : Rg.ringB n d = true := by simp [Rg.ringB]; omega
  have st : ∀ x s, 0 ≤ x → x < n → Rg.step n d x s = (x + Rg.sg d * s) % n := fun x s h1 h2 => by
    have nx : Rg.nodeB n x = true := by simp [Rg.nodeB]; omega
    unfold Rg.step
    rw [r, nx]
    rfl
  intro q
  induction q with
  | zero =>
    rw [st a _ ha ha']
    simp [pos]
    exact (Int.emod_eq_of_lt ha ha').symm
  | succ q ih =>
    obtain ⟨h1, h2⟩ := pos_in n d a h hn hn' hd hd' ha ha' hh q
    show Rg.step n d (pos n d a h q) h = _
    rw [st _ _ h1 h2, ih, st a _ ha ha', st a _ ha ha', Int.emod_add_emod]
    congr 1
    rw [show ((q + 1 : Nat) : Int) = (q : Int) + 1 from by omega, Int.add_mul, Int.mul_add, Int.one_mul]
    omega
/-- What is here where a sender's link leads. -/
theorem here_to (n : Nat) (H : List (Int → Option Int)) (d a h : Int) (hn : 4 ≤ n) (hn' : n ≤ 16) (hd : 0 ≤ d) (hd' : d ≤ 1) (ha : 0 ≤ a) (ha' : a < n) (hh : h = 1 ∨ h = 2) :
    here n H d (Rg.step n d a h) h = past H (h.toNat - 1) (4 * a + 2 * d + h - 1) := by
  obtain ⟨h1, h2, h3⟩ := step_back n d a h (by omega) (by omega) hd hd' ha ha' hh
  unfold here
  rw [h3, link_at n d a h (by omega) (by omega) hd hd' ha ha' hh, (inB_iff n _).2 (by omega)]
  simp only [if_true]
  congr 1
  unfold hop
  omega
/-- A track's facts. -/
structure Tk (n : Nat) (d a h : Int) (m : Nat) (ps lk : Nat → Int) : Prop where
  p0 : ps 0 = a
  link : ∀ q W, Calls Tryd.prog 37 #[.int .i64 n, .int .u8 d, .int .i64 (ps q), .int .i64 h] W fun e w' => e = .returned (.int .i64 (lk q)) ∧ W = w'
  step : ∀ q W, Signs W → Calls Tryd.prog 28 #[.int .i64 n, .int .u8 d, .int .i64 (ps q), .int .i64 h] W fun e w' => e = .returned (.int .i64 (ps (q + 1))) ∧ ∃ k, w' = W.drewN k
  here : ∀ q H, here n H d (ps (q + 1)) h = past H (h.toNat - 1) (lk q)
  fin : ∀ W, Signs W → Calls Tryd.prog 28 #[.int .i64 n, .int .u8 d, .int .i64 a, .int .i64 ((m : Int) * h)] W fun e w' => e = .returned (.int .i64 (ps m)) ∧ ∃ k, w' = W.drewN k
  inn : ∀ q, inB n (lk q) = true
theorem tk_of (n : Nat) (d a h : Int) (m : Nat) (hn4 : 4 ≤ n) (hn16 : n ≤ 16) (hd0 : 0 ≤ d) (hd1 : d ≤ 1) (ha : 0 ≤ a) (ha' : a < n) (hh' : h = 1 ∨ h = 2) :
    Tk n d a h m (pos n d a h) (fun q => 4 * pos n d a h q + 2 * d + h - 1) := by
  have PI := pos_in n d a h (by omega) (by omega) hd0 hd1 ha ha' hh'
  have PE := pos_eq n d a h (by omega) (by omega) hd0 hd1 ha ha' hh' m
  refine ⟨rfl, fun q W => ?_, fun q W g => ?_, fun q H => ?_, fun W g => ?_, fun q => ?_⟩
  · have := link_any n d (pos n d a h q) h W hd0
    rw [link_at n d _ h (by omega) (by omega) hd0 hd1 (PI q).1 (PI q).2 hh'] at this
    exact this
  · exact step_any n d (pos n d a h q) h W hd0 g
  · exact here_to n H d (pos n d a h q) h hn4 hn16 hd0 hd1 (PI q).1 (PI q).2 hh'
  · have := step_any n d a ((m : Int) * h) W hd0 g
    rw [← PE] at this
    exact this
  · refine (inB_iff n _).2 ?_
    have := PI q
    show 0 ≤ 4 * pos n d a h q + 2 * d + h - 1 ∧ 4 * pos n d a h q + 2 * d + h - 1 < 4 * n
    omega
set_option maxRecDepth 100000 in
set_option maxHeartbeats 8000000 in
theorem track_walk (nb k0 k1 : Int) (z0 z1 : Bool) (w : World) (h0 : 0 ≤ nb) (h0' : nb ≤ 255) (h1 : 0 ≤ k0) (h1' : k0 ≤ 255) (h2 : 0 ≤ k1) (h2' : k1 ≤ 255) (hs : 0 < w.heap.size) (sg : Signs w) :
    Calls Tryd.prog 12 #[.int .u8 nb, .agg #[.int .u8 k0, .int .u8 k1], .agg #[.bool z0, .bool z1]] w fun e w' => e = .returned (.bool true) ∧ Below w.heap.size w w' := by
  obtain ⟨n, hn⟩ : ∃ n : Nat, 4 + nb % 13 = (n : Int) := ⟨(4 + nb % 13).toNat, by omega⟩
  have hn4 : 4 ≤ n := by omega
  have hn16 : n ≤ 16 := by omega
  have HN := hide (fun W => nodes_any nb W h0 h0')
  rw [hn] at HN
  obtain ⟨a, ha, ha'⟩ : ∃ a : Nat, k0 % (n : Int) = (a : Int) ∧ a < n := ⟨(k0 % (n : Int)).toNat, by have := Int.emod_nonneg k0 (show (n : Int) ≠ 0 by omega); omega, by have := Int.emod_lt_of_pos k0 (show 0 < (n : Int) by omega); have := Int.emod_nonneg k0 (show (n : Int) ≠ 0 by omega); omega⟩
  obtain ⟨m, hm, hm'⟩ : ∃ m : Nat, k1 % 20 = (m : Int) ∧ m < 20 := ⟨(k1 % 20).toNat, by omega, by omega⟩
  obtain ⟨W1, hW1⟩ : ∃ W1, w.alloc (.cells #[.int .u8 k0, .int .u8 k1] 73) = W1 := ⟨_, rfl⟩
  obtain ⟨W2, hW2⟩ : ∃ W2, W1.alloc (.cells #[.bool z0, .bool z1] 80) = W2 := ⟨_, rfl⟩
  have z1' : W1.heap.size = w.heap.size + 1 := by rw [← hW1]; exact alloc_size _ _
  have hb1 : W2.heap[w.heap.size]? = some (.cells #[.int .u8 k0, .int .u8 k1] 73 (0, 0)) := by
    rw [← hW2, ← hW1]
    exact (Below.heap_alloc _ _ _ (by rw [alloc_size]; omega)).trans (heap_alloc_new w _)
  have hb2 : W2.heap[w.heap.size + 1]? = some (.cells #[.bool z0, .bool z1] 80 (0, 0)) := by
    rw [← hW2, ← z1']
    exact heap_alloc_new W1 _
  have BL := hide (show Below w.heap.size w W2 from by
    rw [← hW2, ← hW1]
    exact ((Below.refl _ w).alloc (Nat.le_refl _) _).alloc (by rw [alloc_size]; omega) _)
  have sg2 : Signs W2 := sg.below BL.out hs
  have hs2 : 0 < W2.heap.size := Nat.lt_of_lt_of_le hs BL.out.size
  have u0 := row_cell hb1 0
  have u1 := row_cell hb1 1
  have v0 := row_cell hb2 0
  have v1 := row_cell hb2 1
  have HS := hide (And.intro hs2 sg2)
  obtain ⟨d, hd⟩ : ∃ d : Int, (if z0 then 1 else 0) = d := ⟨_, rfl⟩
  obtain ⟨h, hh⟩ : ∃ h : Int, (if z1 then 2 else 1) = h := ⟨_, rfl⟩
  have HD := hide hd
  have HH := hide hh
  have hd01 : 0 ≤ d ∧ d ≤ 1 := by subst hd; cases z0 <;> decide
  have hh12 : 1 ≤ h ∧ h ≤ 2 := by subst hh; cases z1 <;> decide
  obtain ⟨hd0, hd1⟩ := hd01
  obtain ⟨hh1, hh2⟩ := hh12
  clear hb1 hb2 hs sg hs2 sg2 hn hd hh
  go_enter Tryd.func12, Tryd.ntmps12
  go_wp2_with fail
  clear hW1 hW2 z1'
  refine (HN.out _).mono ?_
  rintro e w' ⟨rfl, rfl⟩
  have hn0 : (0 : Int) < (n : Int) := by omega
  go_upto_if 31 with (fail)
  rw [ha, hm]
  clear ha hm u0 u1
  go_cut [10] (fun s wx => s = .int .u8 d ∧ W2 = wx)
  case first =>
    have hd := HD.out
    cases z0 <;>
    · simp only [Bool.false_eq_true, if_false, if_true] at hd
      subst hd
      go_wp2_with fail
      go_meet
      exact ⟨rfl, rfl⟩
  case rest =>
    obtain ⟨rfl, rfl⟩ := hcut
    clear v0 HD
    go_upto_if 33 with (fail)
    go_cut [11] (fun s wx => s = .int .i64 h ∧ W2 = wx)
    case first =>
      have hh := HH.out
      cases z1 <;>
      · simp only [Bool.false_eq_true, if_false, if_true] at hh
        subst hh
        go_wp2_with fail
        go_meet
        exact ⟨rfl, rfl⟩
    case rest =>
      obtain ⟨rfl, rfl⟩ := hcut
      clear v1 HH
      obtain ⟨ps, lk, TK⟩ : ∃ ps lk, Hid (Tk n d a h m ps lk) := ⟨_, _, tk_of n d a h m hn4 hn16 hd0 hd1 (by omega) (by omega) (by omega)⟩
      obtain ⟨T, hT⟩ : ∃ T : Nat, (m : Int) * h = (T : Int) := ⟨((m : Int) * h).toNat, by have : 0 ≤ (m : Int) * h := Int.mul_nonneg (by omega) (by omega); omega⟩
      have hTl : T ≤ 40 := by
        have : (m : Int) * h ≤ 20 * 2 := Int.mul_le_mul (by omega) hh2 (by omega) (by omega)
        omega
      have SE := hide (TK.out.fin)
      rw [hT] at SE
      go_wp2_with fail
      refine (ws_new n W2 W2 hn4 hn16 HS.out.1 HS.out.2 (Below.refl _ _)).mono ?_
      rintro e w1 ⟨A, rfl, s1⟩
      have S1 := hide s1
      clear s1
      go_wp2_with fail
      have L0 := hide (TK.out.link 0 w1)
      rw [TK.out.p0] at L0
      refine L0.out.mono ?_
      rintro e w' ⟨rfl, rfl⟩
      go_wp2_with fail
      refine (ws_give S1.out (lk 0) 9 (TK.out.inn 0)).mono ?_
      rintro e w2 ⟨rfl, s2⟩
      have S2 := hide s2
      clear s2 S1 L0
      go_wp2_with fail
      refine (ws_end S2.out (by decide)).mono ?_
      rintro e w3 ⟨rfl, s3⟩
      have S3 := hide s3
      clear s3 S2
      go_wp2_with fail
      obtain ⟨c, hc⟩ : ∃ c : Nat, h.toNat = c := ⟨_, rfl⟩
      have HC := hide (show h = (c : Int) from by omega)
      have hc1 : 1 ≤ c := by omega
      have hc2 : c ≤ 2 := by omega
      have HT := hide (fun q H => by have := TK.out.here q H; rw [hc] at this; exact this)
      have HMC := hide (show T = m * c from by
        have e : (m : Int) * h = ((m * c : Nat) : Int) := by rw [HC.out]; simp
        omega)
      have eT1 : IntKind.i64.wrap ((m : Int) * h) = (T : Int) := by rw [hT, IntKind.wrap_i64]; omega
      clear hc
      have eA := hide TK.out.p0
      go_loopg [8, 15] T (fun gk at_ i wr => ∃ (t q r : Nat) (H : List (Int → Option Int)), gk + t = T ∧ i = .int .i64 ((t : Int) + 1) ∧ at_ = .int .i64 (ps q) ∧ Hid (t = q * c + r) ∧ r < c ∧ Hid (H.length = t + 1) ∧ Hid (Ws W2 wr A n H []) ∧ Hid (∀ (i : Nat) (j : Int), i < c → past H i j = if i = r ∧ j = lk q then some 9 else none))
      case atStart =>
        refine ⟨0, 0, 0, _, by omega, by rfl, by rw [eA.out], by simp [Hid], by omega, ?_, S3, fun i j hi => ?_⟩
        · exact (rfl : [_].length = 0 + 1)
        · cases i with
          | zero =>
            rw [past_zero, get_upd, get_nil]
            simp
          | succ i => rw [past_succ, past_nil]; simp
      case round =>
        obtain ⟨t, q, r, H, hgk, rfl, rfl, HTQ, hr, HL, S, HP⟩ := hrel
        clear S3
        by_cases hlt : t < T
        · have hq : ((t : Int) + 1 ≤ T) := by omega
          have hq' : decide ((t : Int) + 1 ≤ T) = true := decide_eq_true (by omega)
          have hq3 : t + 1 ≤ T := hlt
          obtain ⟨b, hb⟩ : ∃ b, decide (r = c - 1) = b := ⟨_, rfl⟩
          have eB : (((t : Int) + 1) % h == 0) = b := by
            rw [← hb, Bool.eq_iff_iff]
            simp only [beq_iff_eq, decide_eq_true_eq]
            have e1 := HTQ.out
            have e2 := HC.out
            have e3 : ((t : Int) + 1) % h = (((t + 1) % c : Nat) : Int) := by rw [e2]; simp
            rw [e3, e1]
            have hcc : c = 1 ∨ c = 2 := by omega
            rcases hcc with rfl | rfl <;> omega
          have o1 := HT.out q H
          rw [HP.out (c - 1) (lk q) (by omega)] at o1
          have o2 : (if c - 1 = r ∧ lk q = lk q then some (9 : Int) else none) = if b then some 9 else none := by
            rw [← hb]
            by_cases h1 : r = c - 1
            · rw [if_pos ⟨h1.symm, rfl⟩, decide_eq_true h1]; rfl
            · rw [if_neg (fun e => h1 e.1.symm), decide_eq_false h1]; rfl
          rw [o2] at o1
          have ST := hide (TK.out.step q)
          have HE := hide (fun W (hw : Ws W2 W A n H []) => ws_here hw HS.out.1 HS.out.2 d (ps (q + 1)) h hd0)
          rw [o1] at HE
          have LK := hide (TK.out.link (q + 1))
          have HB := hide hb
          clear o1 o2 hb
          cases b with
          | true =>
            go_wp2_with fail
            refine (ST.out _ (HS.out.2.below S.out.bel HS.out.1)).mono ?_
            rintro e w7 ⟨rfl, m7, rfl⟩
            have S7 := hide (S.out.drewN m7)
            clear ST
            go_wp2_with fail
            refine (HE.out _ S7.out).mono ?_
            rintro e w8 ⟨rfl, s8⟩
            have S8 := hide s8
            clear s8 HE
            go_wp2_with fail
            refine (LK.out _).mono ?_
            rintro e w' ⟨rfl, rfl⟩
            go_wp2_with fail
            refine (ws_give S8.out (lk (q + 1)) 9 (TK.out.inn (q + 1))).mono ?_
            rintro e w9 ⟨rfl, s9⟩
            have S9 := hide s9
            clear s9 S8 LK
            go_wp2_with fail
            refine (ws_end S9.out (by have := HL.out; omega)).mono ?_
            rintro e w10 ⟨rfl, s10⟩
            have S10 := hide s10
            clear s10 S9
            go_wp2_with fail
            go_roundg (gk - 1)
            case measure => omega
            case rel =>
              refine ⟨t + 1, q + 1, 0, _, by omega, by go_num, rfl, ?_, by omega, ?_, S10, fun i j hi => ?_⟩
              · have e1 := HTQ.out
                have e2 := of_decide_eq_true HB.out
                show t + 1 = (q + 1) * c + 0
                rw [e1, Nat.add_mul]
                omega
              · show List.length _ = t + 1 + 1
                rw [List.length_cons, HL.out]
              · have e2 := of_decide_eq_true HB.out
                cases i with
                | zero => rw [past_zero, get_upd, get_nil]; simp
                | succ i => rw [past_succ, HP.out i j (by omega), if_neg (by omega), if_neg (by omega)]
          | false =>
            go_wp2_with fail
            refine (ST.out _ (HS.out.2.below S.out.bel HS.out.1)).mono ?_
            rintro e w7 ⟨rfl, m7, rfl⟩
            have S7 := hide (S.out.drewN m7)
            clear ST
            go_wp2_with fail
            refine (HE.out _ S7.out).mono ?_
            rintro e w8 ⟨rfl, s8⟩
            have S8 := hide s8
            clear s8 HE
            go_wp2_with fail
            refine (ws_end S8.out (by have := HL.out; omega)).mono ?_
            rintro e w10 ⟨rfl, s10⟩
            have S10 := hide s10
            clear s10 S8
            go_wp2_with fail
            go_roundg (gk - 1)
            case measure => omega
            case rel =>
              have e2 := of_decide_eq_false HB.out
              refine ⟨t + 1, q, r + 1, _, by omega, by go_num, rfl, ?_, by omega, ?_, S10, fun i j hi => ?_⟩
              · have e1 := HTQ.out
                show t + 1 = q * c + (r + 1)
                omega
              · show List.length _ = t + 1 + 1
                rw [List.length_cons, HL.out]
              · cases i with
                | zero => rw [past_zero, get_nil, if_neg (by omega)]
                | succ i => rw [past_succ, HP.out i j (by omega)]; simp
        · obtain rfl : t = T := by omega
          have hqm : q = m := by
            have e1 := HTQ.out
            have e2 := HMC.out
            have hcc : c = 1 ∨ c = 2 := by omega
            rcases hcc with rfl | rfl <;> omega
          subst hqm
          go_wp2_with fail
          refine (SE.out _ (HS.out.2.below S.out.bel HS.out.1)).mono ?_
          rintro e w7 ⟨rfl, m7, rfl⟩
          have S7 := hide (S.out.drewN m7)
          go_wp2_with fail
          refine (wlives_any W2 _ HS.out.1 HS.out.2 S7.out.bel).mono ?_
          rintro e w8 ⟨rfl, b8⟩
          have B8 := hide (BL.out.trans (b8.mono BL.out.size))
          clear b8
          go_wp2_with fail
          go_ret
          exact ⟨rfl, B8.out⟩
end Wr
end Go.Proofs.YtbniijmabebhoaaDoor
