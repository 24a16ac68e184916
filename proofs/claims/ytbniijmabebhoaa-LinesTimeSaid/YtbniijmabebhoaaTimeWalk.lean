/- The walk of LinesTime: of whatever things and gaps, near lines and a far one carry as the hop says; nothing that was there has turned. -/
import Derived.Test.YtbniijmabebhoaaLives
import Derived.Test.YtbniijmabebhoaaLinesU8
import Derived.Deep.LoopGhost
import Derived.Deep.Light
import Derived.Deep.DeepCutAuto
namespace Go.Proofs.Ytbniijmabebhoaa
open Go.RowKit
set_option linter.unusedVariables false
def thing (zs : List Int) (gs : List Bool) (j : Nat) : Int × Bool := if j < zs.length ∧ gs.getD j false = false then (zs.getD j 0, true) else (0, false)
def th (zs : List Int) (gs : List Bool) : Nat → Int × Bool
  | 0 => (0, false)
  | 1 => (0, false)
  | j + 2 => thing zs gs j
theorem thing_yes {zs : List Int} {gs : List Bool} {j : Nat} (h : (thing zs gs j).2 = true) : j < zs.length ∧ (thing zs gs j).1 = zs.getD j 0 := by
  unfold thing at h ⊢
  split at h
  · rename_i hc; rw [if_pos hc]; exact ⟨hc.1, rfl⟩
  · simp at h
theorem thing_no {zs : List Int} {gs : List Bool} {j : Nat} (h : (thing zs gs j).2 = false) : (thing zs gs j).1 = 0 := by
  unfold thing at h ⊢
  split at h
  · simp at h
  · rename_i hc; rw [if_neg hc]
theorem th_yes {zs : List Int} {gs : List Bool} {j : Nat} (h : (th zs gs j).2 = true) : ∃ i, j = i + 2 ∧ i < zs.length ∧ (th zs gs j).1 = zs.getD i 0 := by
  match j, h with
  | 0, h => simp [th] at h
  | 1, h => simp [th] at h
  | i + 2, h => exact ⟨i, rfl, thing_yes h⟩
theorem th_no {zs : List Int} {gs : List Bool} {j : Nat} (h : (th zs gs j).2 = false) : (th zs gs j).1 = 0 := by
  match j, h with
  | 0, h => rfl
  | 1, h => rfl
  | i + 2, h => exact thing_no h
theorem thing_gap (zs : List Int) (gs : List Bool) (j : Nat) : (thing zs gs j).2 = (decide (j < zs.length) && !gs.getD j false) := by
  unfold thing
  split
  · rename_i h; rw [h.2]; simp [h.1]
  · rename_i h
    by_cases h1 : j < zs.length
    · have : gs.getD j false = true := by cases e : gs.getD j false <;> simp_all
      rw [this]; simp
    · simp [h1]
theorem gap_eq (len k : Nat) : Value.bool (decide (len ≤ k)) = Value.bool (!(decide (k < len) && !false)) := by
  rcases Nat.lt_or_ge k len with h | h
  · simp [h]
  · simp [Nat.not_lt.2 h, h]
theorem newU1 (w : World) : Calls Try.prog 8 #[.int .i64 1] w fun e w' => ∃ B R : Nat, e = .returned (.tuple #[.pointer (some ⟨B, 0, none⟩), .int .i64 0]) ∧ Ln w' 80 82 B R 1 #[.int .u8 0, .bool false] 0 ∧ w.heap.size ≤ B ∧ w.heap.size ≤ R ∧ B < w'.heap.size ∧ R < w'.heap.size ∧ Far (fun _ => False) w w' :=
  (L_u8.new1 w).mono fun e w' ⟨he, hL, hF⟩ => ⟨_, _, he, hL, by omega, by omega, lt_of_blk hL.1, lt_of_blk hL.2, hF⟩
theorem newU2 (w : World) : Calls Try.prog 8 #[.int .i64 2] w fun e w' => ∃ B R : Nat, e = .returned (.tuple #[.pointer (some ⟨B, 0, none⟩), .int .i64 0]) ∧ Ln w' 80 82 B R 2 #[.int .u8 0, .bool false, .int .u8 0, .bool false] 0 ∧ w.heap.size ≤ B ∧ w.heap.size ≤ R ∧ B < w'.heap.size ∧ R < w'.heap.size ∧ Far (fun _ => False) w w' :=
  (L_u8.new2 w).mono fun e w' ⟨he, hL, hF⟩ => ⟨_, _, he, hL, by omega, by omega, lt_of_blk hL.1, lt_of_blk hL.2, hF⟩
set_option maxRecDepth 100000 in
set_option maxHeartbeats 20000000 in
theorem time_walk (A G : Option Addr) (zs : List Int) (gs : List Bool) (len cap glen gcap : Nat) (w : World) (hl : zs.length = len) (hg : gs.length = glen) (hs : len ≤ 300) (hgm : glen ≤ maxLen)
    (hr : Sl w w.heap.size A (zs.map (.int .u8))) (hq : Sl w w.heap.size G (gs.map .bool)) :
    Calls Try.prog 3 #[.slice A len cap, .slice G glen gcap] w fun e w' => e = .returned (.bool true) ∧ Below w.heap.size w w' := by
  unfold maxLen at hgm
  have HL := hide hl
  have HG := hide hg
  have HR := hide hr
  have HQ := hide hq
  clear hl hg hr hq
  go_enter Try.func3, Try.ntmps3
  go_wp2_with fail
  refine (newU1 _).mono ?_
  rintro e w1 ⟨B1, R1, rfl, L1, o1, o1', z1, z1', F1⟩
  have b1 := hide (below_of_far F1)
  go_wp2_with fail
  refine (newU1 _).mono ?_
  rintro e w2 ⟨B2, R2, rfl, L2, o2, o2', z2, z2', F2⟩
  have M1 := hide (L1.far F2 (fun h => h) (fun h => h))
  have b2 := hide (b1.out.trans ((below_of_far F2).mono b1.out.size))
  clear L1 F1 F2 b1
  go_wp2_with fail
  refine (newU2 _).mono ?_
  rintro e w3 ⟨B3, R3, rfl, L3, o3, o3', z3, z3', F3⟩
  have N1 := hide (M1.out.far F3 (fun h => h) (fun h => h))
  have N2 := hide (L2.far F3 (fun h => h) (fun h => h))
  have N3 := hide L3
  have b3 := hide (b2.out.trans ((below_of_far F3).mono b2.out.size))
  clear L2 L3 F3 b2 M1
  go_wp2_with fail
  go_loopg [11] (len + 4) (fun gk i wr => ∃ k : Nat, gk + k = len + 4 ∧ i = .int .i64 k ∧ Hid (Ln wr 80 82 B1 R1 1 #[.int .u8 (th zs gs (k + 1)).1, .bool (th zs gs (k + 1)).2] k) ∧ Hid (Ln wr 80 82 B2 R2 1 #[.int .u8 (th zs gs k).1, .bool (th zs gs k).2] k) ∧
      Hid (Ln wr 80 82 B3 R3 2 #[.int .u8 (th zs gs k).1, .bool (th zs gs k).2, .int .u8 (th zs gs (k + 1)).1, .bool (th zs gs (k + 1)).2] k) ∧ Hid (Below w.heap.size w wr))
  case atStart => exact ⟨0, rfl, rfl, N1, N2, N3, b3⟩
  case round =>
    obtain ⟨k, hgk, rfl, K1, K2, K3, kb⟩ := hrel
    by_cases hlt : k < len + 3
    · go_upto_region 11 with fail
      go_cut [12] (fun g wx => g = .bool (!(thing zs gs k).2) ∧ wr = wx)
      case first => as_aux_lemma =>
        have hgap := hide (thing_gap zs gs k)
        by_cases hkg : k < glen
        · obtain ⟨ad, rfl, hblk, hc⟩ := HQ.out.at_ (k := k) (by simpa [HG.out] using hkg)
          have hcc : wr.cell? (ad.add k) = some (.bool (gs[k]'(by rw [HG.out]; exact hkg))) := by
            rw [kb.out.cell (by rw [add_block]; exact hblk), hc, List.getElem_map]
          have hgd : gs.getD k false = gs[k]'(by rw [HG.out]; exact hkg) := by simp [HG.out, hkg]
          clear hc
          generalize gs[k]'(by rw [HG.out]; exact hkg) = bit at hcc hgd
          have HD := hide hgd
          clear hgd
          cases bit with
          | true =>
            go_wp2_with fail
            go_meet
            exact ⟨by rw [hgap.out, HD.out]; simp, rfl⟩
          | false =>
            by_cases hkl : k < len
            all_goals
              go_wp2_with fail
              go_meet
              exact ⟨by rw [hgap.out, HD.out, HL.out]; exact gap_eq len k, rfl⟩
        · have HD : gs.getD k false = false := by simp [HG.out, hkg]
          have HD := hide HD
          by_cases hkl : k < len
          all_goals
            go_wp2_with fail
            go_meet
            exact ⟨by rw [hgap.out, HD.out, HL.out]; exact gap_eq len k, rfl⟩
      case rest =>
        obtain ⟨rfl, rfl⟩ := hcut
        go_wp2_with fail
        refine (L_u8.here_any _ _ 1 _ _ _ (by omega) (row_cell K1.out.1 0) (row_cell K1.out.2 0) (row_cell K1.out.2 1)).mono ?_
        rintro e w4 ⟨rfl, n1, rfl⟩
        go_wp2_with fail
        refine (L_u8.here_any _ _ 1 _ _ _ (by omega) (row_cell (K2.out.drewN n1).1 0) (row_cell (K2.out.drewN n1).2 0) (row_cell (K2.out.drewN n1).2 1)).mono ?_
        rintro e w4 ⟨rfl, n2, rfl⟩
        go_wp2_with fail
        refine (L_u8.here_any _ _ 2 _ _ _ (by omega) (row_cell (K3.out.drewN _).1 0) (row_cell (K3.out.drewN _).2 0) (row_cell (K3.out.drewN _).2 1)).mono ?_
        rintro e w4 ⟨rfl, n3, rfl⟩
        go_upto_region 15 with fail
        go_cut [19] (fun g wx => g = .bool (th zs gs (k + 1)).2 ∧ ∃ n, wx = wr.drewN n)
        case first => as_aux_lemma =>
          by_cases hk0 : k = 0
          · subst hk0
            go_wp2_with fail
            go_meet
            exact ⟨rfl, _, rfl⟩
          · obtain ⟨p, rfl⟩ : ∃ p, k = p + 1 := ⟨k - 1, by omega⟩
            have hth := hide (thing_gap zs gs p)
            by_cases hpl : p < len
            · by_cases hpg : p < glen
              · obtain ⟨ad, rfl, hblk, hc⟩ := HQ.out.at_ (k := p) (by simpa [HG.out] using hpg)
                have hcc : wr.cell? (ad.add p) = some (.bool (gs[p]'(by rw [HG.out]; exact hpg))) := by
                  rw [kb.out.cell (by rw [add_block]; exact hblk), hc, List.getElem_map]
                have hgd : gs.getD p false = gs[p]'(by rw [HG.out]; exact hpg) := by simp [HG.out, hpg]
                clear hc
                generalize gs[p]'(by rw [HG.out]; exact hpg) = bit at hcc hgd
                have HD := hide hgd
                clear hgd
                cases bit
                all_goals
                  go_wp2_with fail
                  go_meet
                  exact ⟨by rw [show th zs gs (p + 1 + 1) = thing zs gs p from rfl, hth.out, HD.out, HL.out]; simp [hpl], _, rfl⟩
              · have HD : gs.getD p false = false := by simp [HG.out, hpg]
                have HD := hide HD
                go_wp2_with fail
                go_meet
                exact ⟨by rw [show th zs gs (p + 1 + 1) = thing zs gs p from rfl, hth.out, HD.out, HL.out]; simp [hpl], _, rfl⟩
            · go_wp2_with fail
              go_meet
              exact ⟨by rw [show th zs gs (p + 1 + 1) = thing zs gs p from rfl, hth.out, HL.out]; simp [hpl], _, rfl⟩
        case rest =>
        obtain ⟨rfl, n4, rfl⟩ := hcut
        go_upto_region 16 with fail
        go_cut [20] (fun g wx => g = .bool (th zs gs k).2 ∧ ∃ n, wx = wr.drewN n)
        case first => as_aux_lemma =>
          by_cases hk0 : k < 2
          · rcases (show k = 0 ∨ k = 1 from by omega) with rfl | rfl
            all_goals
              go_wp2_with fail
              go_meet
              exact ⟨rfl, _, rfl⟩
          · obtain ⟨p, rfl⟩ : ∃ p, k = p + 2 := ⟨k - 2, by omega⟩
            have hth := hide (thing_gap zs gs p)
            by_cases hpl : p < len
            · by_cases hpg : p < glen
              · obtain ⟨ad, rfl, hblk, hc⟩ := HQ.out.at_ (k := p) (by simpa [HG.out] using hpg)
                have hcc : wr.cell? (ad.add p) = some (.bool (gs[p]'(by rw [HG.out]; exact hpg))) := by
                  rw [kb.out.cell (by rw [add_block]; exact hblk), hc, List.getElem_map]
                have hgd : gs.getD p false = gs[p]'(by rw [HG.out]; exact hpg) := by simp [HG.out, hpg]
                clear hc
                generalize gs[p]'(by rw [HG.out]; exact hpg) = bit at hcc hgd
                have HD := hide hgd
                clear hgd
                cases bit
                all_goals
                  go_wp2_with fail
                  go_meet
                  exact ⟨by rw [show th zs gs (p + 2) = thing zs gs p from rfl, hth.out, HD.out, HL.out]; simp [hpl], _, rfl⟩
              · have HD : gs.getD p false = false := by simp [HG.out, hpg]
                have HD := hide HD
                go_wp2_with fail
                go_meet
                exact ⟨by rw [show th zs gs (p + 2) = thing zs gs p from rfl, hth.out, HD.out, HL.out]; simp [hpl], _, rfl⟩
            · go_wp2_with fail
              go_meet
              exact ⟨by rw [show th zs gs (p + 2) = thing zs gs p from rfl, hth.out, HL.out]; simp [hpl], _, rfl⟩
        case rest =>
        obtain ⟨rfl, n5, rfl⟩ := hcut
        have q1 : (th zs gs (k + 1)).2 = true → ∃ i, k = i + 1 ∧ i < len ∧ (th zs gs (k + 1)).1 = zs.getD i 0 := fun h => by
          obtain ⟨i, hi, hi', e⟩ := th_yes h
          exact ⟨i, by omega, by rw [← HL.out]; exact hi', e⟩
        have q0 : (th zs gs k).2 = true → ∃ i, k = i + 2 ∧ i < len ∧ (th zs gs k).1 = zs.getD i 0 := fun h => by
          obtain ⟨i, hi, hi', e⟩ := th_yes h
          exact ⟨i, by omega, by rw [← HL.out]; exact hi', e⟩
        have z1e : (th zs gs (k + 1)).2 = false → (th zs gs (k + 1)).1 = 0 := th_no
        have zae : (thing zs gs k).2 = false → (thing zs gs k).1 = 0 := thing_no
        have yae : (thing zs gs k).2 = true → k < len ∧ (thing zs gs k).1 = zs.getD k 0 := fun h => by
          obtain ⟨h1, h2⟩ := thing_yes h
          exact ⟨by rw [← HL.out]; exact h1, h2⟩
        obtain ⟨t1, h1e⟩ : ∃ t1, th zs gs (k + 1) = t1 := ⟨_, rfl⟩
        obtain ⟨ta, hae⟩ : ∃ ta, thing zs gs k = ta := ⟨_, rfl⟩
        rw [h1e] at q1 z1e K1 K3 ⊢
        rw [hae] at zae yae ⊢
        generalize th zs gs k = t0 at q0 K2 K3 ⊢
        have E1 := hide h1e
        have EA := hide hae
        clear h1e hae
        obtain ⟨x1, b1⟩ := t1
        obtain ⟨x0, b0⟩ := t0
        obtain ⟨xa, b2⟩ := ta
        simp only at q1 q0 z1e zae yae K1 K2 K3
        go_upto_region 17 with fail
        go_cut [187] (fun g wx => g = .bool false ∧ ∃ n, wx = wr.drewN n)
        case first =>
          clear z1e zae yae E1 EA
          cases b1 <;> cases b0
          · as_aux_lemma =>
            clear q0 q1
            go_wp2_with fail
            refine (L_u8.ticks_any _ _ 2 _ _ (by omega) (row_cell (K3.out.drewN _).1 0) (row_cell (K3.out.drewN _).1 1)).mono ?_
            rintro e w4 ⟨rfl, rfl⟩
            go_wp2_with fail
            go_meet
            exact ⟨rfl, _, rfl⟩
          · as_aux_lemma =>
            have hk1 : 2 ≤ k ∧ k - 2 < len := by
              obtain ⟨i, hi, hi', _⟩ := q0 rfl
              omega
            obtain ⟨ad, rfl, hblk, _⟩ := HR.out.at_ (k := k - 2) (by simp [HL.out]; omega)
            have cc : wr.cell? (ad.add (k - 2)) = some (.int .u8 x0) := by
              obtain ⟨i, hi, hi', e⟩ := q0 rfl
              obtain ⟨ad', hadd, hb', hc⟩ := HR.out.at_ (k := k - 2) (by simp [HL.out]; omega)
              cases hadd
              have hik : i = k - 2 := by omega
              subst hik
              rw [kb.out.cell (by rw [add_block]; exact hb'), hc, e]
              simp [HL.out, show k - 2 < len from by omega]
            clear q0 q1
            go_wp2_with fail
            refine (L_u8.ticks_any _ _ 2 _ _ (by omega) (row_cell (K3.out.drewN _).1 0) (row_cell (K3.out.drewN _).1 1)).mono ?_
            rintro e w4 ⟨rfl, rfl⟩
            go_wp2_with fail
            go_meet
            exact ⟨rfl, _, rfl⟩
          · as_aux_lemma =>
            have hk1 : 1 ≤ k ∧ k - 1 < len := by
              obtain ⟨i, hi, hi', _⟩ := q1 rfl
              omega
            obtain ⟨ad, rfl, hblk, _⟩ := HR.out.at_ (k := k - 1) (by simp [HL.out]; omega)
            have cc' : wr.cell? (ad.add (k - 1)) = some (.int .u8 x1) := by
              obtain ⟨i, hi, hi', e⟩ := q1 rfl
              obtain ⟨ad', hadd, hb', hc⟩ := HR.out.at_ (k := k - 1) (by simp [HL.out]; omega)
              cases hadd
              have hik : i = k - 1 := by omega
              subst hik
              rw [kb.out.cell (by rw [add_block]; exact hb'), hc, e]
              simp [HL.out, show k - 1 < len from by omega]
            have hk2 : k - 1 < len := by
              obtain ⟨i, hi, hi', _⟩ := q1 rfl
              omega
            clear q0 q1
            go_wp2_with fail
            refine (L_u8.ticks_any _ _ 2 _ _ (by omega) (row_cell (K3.out.drewN _).1 0) (row_cell (K3.out.drewN _).1 1)).mono ?_
            rintro e w4 ⟨rfl, rfl⟩
            go_wp2_with fail
            go_meet
            exact ⟨rfl, _, rfl⟩
          · as_aux_lemma =>
            have hk1 : 2 ≤ k ∧ k - 2 < len := by
              obtain ⟨i, hi, hi', _⟩ := q0 rfl
              omega
            obtain ⟨ad, rfl, hblk, _⟩ := HR.out.at_ (k := k - 2) (by simp [HL.out]; omega)
            have cc' : wr.cell? (ad.add (k - 1)) = some (.int .u8 x1) := by
              obtain ⟨i, hi, hi', e⟩ := q1 rfl
              obtain ⟨ad', hadd, hb', hc⟩ := HR.out.at_ (k := k - 1) (by simp [HL.out]; omega)
              cases hadd
              have hik : i = k - 1 := by omega
              subst hik
              rw [kb.out.cell (by rw [add_block]; exact hb'), hc, e]
              simp [HL.out, show k - 1 < len from by omega]
            have hk2 : k - 1 < len := by
              obtain ⟨i, hi, hi', _⟩ := q1 rfl
              omega
            have cc : wr.cell? (ad.add (k - 2)) = some (.int .u8 x0) := by
              obtain ⟨i, hi, hi', e⟩ := q0 rfl
              obtain ⟨ad', hadd, hb', hc⟩ := HR.out.at_ (k := k - 2) (by simp [HL.out]; omega)
              cases hadd
              have hik : i = k - 2 := by omega
              subst hik
              rw [kb.out.cell (by rw [add_block]; exact hb'), hc, e]
              simp [HL.out, show k - 2 < len from by omega]
            clear q0 q1
            go_wp2_with fail
            refine (L_u8.ticks_any _ _ 2 _ _ (by omega) (row_cell (K3.out.drewN _).1 0) (row_cell (K3.out.drewN _).1 1)).mono ?_
            rintro e w4 ⟨rfl, rfl⟩
            go_wp2_with fail
            go_meet
            exact ⟨rfl, _, rfl⟩
        case rest =>
        obtain ⟨rfl, n6, rfl⟩ := hcut
        clear q1 q0
        cases b1 <;> cases b2
        · as_aux_lemma =>
          obtain rfl : x1 = 0 := z1e rfl
          obtain rfl : xa = 0 := zae rfl
          clear z1e zae yae
          go_wp2_with fail
          refine (L_u8.send1n _ _ x0 b0 k _ (by omega) (by omega) (K2.out.drewN n6)).mono ?_
          rintro e w5 ⟨rfl, P2, G2⟩
          have G2' := hide ((Far.refl (fun k => k = B2 ∨ k = R2) (wr.drewN n6)).trans G2)
          have J1 := hide ((K1.out.drewN n6).far G2'.out (by omega) (by omega))
          have J3 := hide ((K3.out.drewN n6).far G2'.out (by omega) (by omega))
          have J2 := hide P2
          have jb := hide (Far.below (below_drewN kb.out n6) G2'.out kb.out.size (by rintro k (rfl | rfl) <;> omega))
          have js := G2'.out.size
          clear P2 G2 G2'
          go_wp2_with fail
          refine (L_u8.send1n _ _ 0 false k _ (by omega) (by omega) J1.out).mono ?_
          rintro e w6 ⟨rfl, P, G⟩
          have G' := hide ((Far.refl (fun k => k = B1 ∨ k = R1) w5).trans G)
          have J1' := hide P
          have J2' := hide (J2.out.far G'.out (by omega) (by omega))
          have J3' := hide (J3.out.far G'.out (by omega) (by omega))
          have jb' := hide (Far.below jb.out G'.out jb.out.size (by rintro k (rfl | rfl) <;> omega))
          have js' := G'.out.size
          clear P G G'
          go_wp2_with fail
          refine (L_u8.send2n _ _ x0 b0 0 false k _ (by omega) (by omega) J3'.out).mono ?_
          rintro e w7 ⟨rfl, P, G⟩
          have G' := hide ((Far.refl (fun k => k = B3 ∨ k = R3) w6).trans G)
          have J3'' := hide P
          have J1'' := hide (J1'.out.far G'.out (by omega) (by omega))
          have J2'' := hide (J2'.out.far G'.out (by omega) (by omega))
          have jb'' := hide (Far.below jb'.out G'.out jb'.out.size (by rintro k (rfl | rfl) <;> omega))
          clear P G G'
          go_wp2_with fail
          go_roundg (gk - 1)
          case measure => go_light; omega
          case rel => exact ⟨k + 1, by omega, by go_num, by rw [show th zs gs (k + 1 + 1) = thing zs gs k from rfl, EA.out]; exact J1'', by rw [E1.out]; exact J2'', by rw [show th zs gs (k + 1 + 1) = thing zs gs k from rfl, EA.out, E1.out]; exact J3'', jb''⟩
        · as_aux_lemma =>
          obtain rfl : x1 = 0 := z1e rfl
          obtain ⟨hkl, ea⟩ := yae rfl
          obtain ⟨ad, rfl, hblk, hc⟩ := HR.out.at_ (k := k) (by simp [HL.out]; omega)
          have ca : w.cell? (ad.add k) = some (.int .u8 xa) := by rw [hc, ea]; simp [HL.out, hkl]
          clear hc ea
          have ca5 : wr.cell? (ad.add k) = some (.int .u8 xa) := (kb.out.cell (by rw [add_block]; exact hblk)).trans ca
          clear z1e zae yae
          go_wp2_with fail
          refine (L_u8.send1n _ _ x0 b0 k _ (by omega) (by omega) (K2.out.drewN n6)).mono ?_
          rintro e w5 ⟨rfl, P2, G2⟩
          have G2' := hide ((Far.refl (fun k => k = B2 ∨ k = R2) (wr.drewN n6)).trans G2)
          have J1 := hide ((K1.out.drewN n6).far G2'.out (by omega) (by omega))
          have J3 := hide ((K3.out.drewN n6).far G2'.out (by omega) (by omega))
          have J2 := hide P2
          have jb := hide (Far.below (below_drewN kb.out n6) G2'.out kb.out.size (by rintro k (rfl | rfl) <;> omega))
          have js := G2'.out.size
          have ca5' : w5.cell? (ad.add k) = some (.int .u8 xa) := (jb.out.cell (by rw [add_block]; exact hblk)).trans ca
          clear P2 G2 G2'
          go_wp2_with fail
          refine (L_u8.send1s _ _ 0 false k xa _ 1 _ (by omega) (by omega) (J1.out.alloc _) (cell_new' _ _ _ _ 0 _ rfl)).mono ?_
          rintro e w6 ⟨rfl, P, G⟩
          have G' := hide (((Far.refl (fun k => k = B1 ∨ k = R1) w5).alloc _).trans G)
          have J1' := hide P
          have J2' := hide (J2.out.far G'.out (by omega) (by omega))
          have J3' := hide (J3.out.far G'.out (by omega) (by omega))
          have jb' := hide (Far.below jb.out G'.out jb.out.size (by rintro k (rfl | rfl) <;> omega))
          have js' := G'.out.size
          clear P G G'
          have ca' : w6.cell? (ad.add k) = some (.int .u8 xa) := (jb'.out.cell (by rw [add_block]; exact hblk)).trans ca
          go_wp2_with fail
          refine (L_u8.send2s _ _ x0 b0 0 false k xa _ 1 _ (by omega) (by omega) (J3'.out.alloc _) (cell_new' _ _ _ _ 0 _ rfl)).mono ?_
          rintro e w7 ⟨rfl, P, G⟩
          have G' := hide (((Far.refl (fun k => k = B3 ∨ k = R3) w6).alloc _).trans G)
          have J3'' := hide P
          have J1'' := hide (J1'.out.far G'.out (by omega) (by omega))
          have J2'' := hide (J2'.out.far G'.out (by omega) (by omega))
          have jb'' := hide (Far.below jb'.out G'.out jb'.out.size (by rintro k (rfl | rfl) <;> omega))
          clear P G G'
          go_wp2_with fail
          go_roundg (gk - 1)
          case measure => go_light; omega
          case rel => exact ⟨k + 1, by omega, by go_num, by rw [show th zs gs (k + 1 + 1) = thing zs gs k from rfl, EA.out]; exact J1'', by rw [E1.out]; exact J2'', by rw [show th zs gs (k + 1 + 1) = thing zs gs k from rfl, EA.out, E1.out]; exact J3'', jb''⟩
        · as_aux_lemma =>
          obtain rfl : xa = 0 := zae rfl
          clear z1e zae yae
          go_wp2_with fail
          refine (L_u8.send1s _ _ x0 b0 k x1 _ 1 _ (by omega) (by omega) ((K2.out.drewN n6).alloc _) (cell_new' _ _ _ _ 0 _ rfl)).mono ?_
          rintro e w5 ⟨rfl, P2, G2⟩
          have G2' := hide (((Far.refl (fun k => k = B2 ∨ k = R2) (wr.drewN n6)).alloc _).trans G2)
          have J1 := hide ((K1.out.drewN n6).far G2'.out (by omega) (by omega))
          have J3 := hide ((K3.out.drewN n6).far G2'.out (by omega) (by omega))
          have J2 := hide P2
          have jb := hide (Far.below (below_drewN kb.out n6) G2'.out kb.out.size (by rintro k (rfl | rfl) <;> omega))
          have js := G2'.out.size
          clear P2 G2 G2'
          go_wp2_with fail
          refine (L_u8.send1n _ _ x1 true k _ (by omega) (by omega) J1.out).mono ?_
          rintro e w6 ⟨rfl, P, G⟩
          have G' := hide ((Far.refl (fun k => k = B1 ∨ k = R1) w5).trans G)
          have J1' := hide P
          have J2' := hide (J2.out.far G'.out (by omega) (by omega))
          have J3' := hide (J3.out.far G'.out (by omega) (by omega))
          have jb' := hide (Far.below jb.out G'.out jb.out.size (by rintro k (rfl | rfl) <;> omega))
          have js' := G'.out.size
          clear P G G'
          go_wp2_with fail
          refine (L_u8.send2n _ _ x0 b0 x1 true k _ (by omega) (by omega) J3'.out).mono ?_
          rintro e w7 ⟨rfl, P, G⟩
          have G' := hide ((Far.refl (fun k => k = B3 ∨ k = R3) w6).trans G)
          have J3'' := hide P
          have J1'' := hide (J1'.out.far G'.out (by omega) (by omega))
          have J2'' := hide (J2'.out.far G'.out (by omega) (by omega))
          have jb'' := hide (Far.below jb'.out G'.out jb'.out.size (by rintro k (rfl | rfl) <;> omega))
          clear P G G'
          go_wp2_with fail
          go_roundg (gk - 1)
          case measure => go_light; omega
          case rel => exact ⟨k + 1, by omega, by go_num, by rw [show th zs gs (k + 1 + 1) = thing zs gs k from rfl, EA.out]; exact J1'', by rw [E1.out]; exact J2'', by rw [show th zs gs (k + 1 + 1) = thing zs gs k from rfl, EA.out, E1.out]; exact J3'', jb''⟩
        · as_aux_lemma =>
          obtain ⟨hkl, ea⟩ := yae rfl
          obtain ⟨ad, rfl, hblk, hc⟩ := HR.out.at_ (k := k) (by simp [HL.out]; omega)
          have ca : w.cell? (ad.add k) = some (.int .u8 xa) := by rw [hc, ea]; simp [HL.out, hkl]
          clear hc ea
          have ca5 : wr.cell? (ad.add k) = some (.int .u8 xa) := (kb.out.cell (by rw [add_block]; exact hblk)).trans ca
          clear z1e zae yae
          go_wp2_with fail
          refine (L_u8.send1s _ _ x0 b0 k x1 _ 1 _ (by omega) (by omega) ((K2.out.drewN n6).alloc _) (cell_new' _ _ _ _ 0 _ rfl)).mono ?_
          rintro e w5 ⟨rfl, P2, G2⟩
          have G2' := hide (((Far.refl (fun k => k = B2 ∨ k = R2) (wr.drewN n6)).alloc _).trans G2)
          have J1 := hide ((K1.out.drewN n6).far G2'.out (by omega) (by omega))
          have J3 := hide ((K3.out.drewN n6).far G2'.out (by omega) (by omega))
          have J2 := hide P2
          have jb := hide (Far.below (below_drewN kb.out n6) G2'.out kb.out.size (by rintro k (rfl | rfl) <;> omega))
          have js := G2'.out.size
          have ca5' : w5.cell? (ad.add k) = some (.int .u8 xa) := (jb.out.cell (by rw [add_block]; exact hblk)).trans ca
          clear P2 G2 G2'
          go_wp2_with fail
          refine (L_u8.send1s _ _ x1 true k xa _ 1 _ (by omega) (by omega) (J1.out.alloc _) (cell_new' _ _ _ _ 0 _ rfl)).mono ?_
          rintro e w6 ⟨rfl, P, G⟩
          have G' := hide (((Far.refl (fun k => k = B1 ∨ k = R1) w5).alloc _).trans G)
          have J1' := hide P
          have J2' := hide (J2.out.far G'.out (by omega) (by omega))
          have J3' := hide (J3.out.far G'.out (by omega) (by omega))
          have jb' := hide (Far.below jb.out G'.out jb.out.size (by rintro k (rfl | rfl) <;> omega))
          have js' := G'.out.size
          clear P G G'
          have ca' : w6.cell? (ad.add k) = some (.int .u8 xa) := (jb'.out.cell (by rw [add_block]; exact hblk)).trans ca
          go_wp2_with fail
          refine (L_u8.send2s _ _ x0 b0 x1 true k xa _ 1 _ (by omega) (by omega) (J3'.out.alloc _) (cell_new' _ _ _ _ 0 _ rfl)).mono ?_
          rintro e w7 ⟨rfl, P, G⟩
          have G' := hide (((Far.refl (fun k => k = B3 ∨ k = R3) w6).alloc _).trans G)
          have J3'' := hide P
          have J1'' := hide (J1'.out.far G'.out (by omega) (by omega))
          have J2'' := hide (J2'.out.far G'.out (by omega) (by omega))
          have jb'' := hide (Far.below jb'.out G'.out jb'.out.size (by rintro k (rfl | rfl) <;> omega))
          clear P G G'
          go_wp2_with fail
          go_roundg (gk - 1)
          case measure => go_light; omega
          case rel => exact ⟨k + 1, by omega, by go_num, by rw [show th zs gs (k + 1 + 1) = thing zs gs k from rfl, EA.out]; exact J1'', by rw [E1.out]; exact J2'', by rw [show th zs gs (k + 1 + 1) = thing zs gs k from rfl, EA.out, E1.out]; exact J3'', jb''⟩
    · go_wp2_with fail
      refine (lives_any _).mono ?_
      rintro e w' ⟨rfl, hb⟩
      have HB := hide hb
      clear hb
      go_wp2_with fail
      go_ret
      exact ⟨rfl, kb.out.trans (HB.out.mono kb.out.size)⟩
end Go.Proofs.Ytbniijmabebhoaa
