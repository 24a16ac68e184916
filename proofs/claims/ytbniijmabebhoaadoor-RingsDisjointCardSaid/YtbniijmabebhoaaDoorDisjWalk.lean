/- The walk of RingsDisjoint: the four tracks share no node but their ends; nothing that was there has turned. -/
import Derived.Test.YtbniijmabebhoaaDoorDisjFacts
import Derived.Test.YtbniijmabebhoaaDoorPlacesWalk
namespace Go.Proofs.YtbniijmabebhoaaDoor
open Go.RowKit
set_option linter.unusedVariables false
theorem pl_len (n d : Int) : ∀ (f : Nat) (at_ hop left : Int), (Rg.pl n d f at_ hop left).length ≤ f := by
  intro f
  induction f with
  | zero => intro _ _ _; simp [Rg.pl]
  | succ f ih =>
    intro at_ hop left
    unfold Rg.pl
    split
    · simp
    · simp only [List.length_cons]
      split
      · simp
      · have := ih (Rg.step n d at_ (-hop)) 2 (left - min hop left); omega
theorem lJ_len (n a b : Int) (j : Nat) : (Rg.lJ n a b j).length ≤ 20 := by
  unfold Rg.lJ
  split
  · unfold Rg.pathL; rw [List.length_reverse]; exact pl_len _ _ _ _ _ _
  · simp
theorem int_row_far {w w' : World} {base S : Nat} {A : Option Addr} {xs : List Int} {k : Nat} (h : IntRow w base A xs) (hf : Far (fun q => q = S) w w') (hS : S < base) (hk : k < xs.length) :
    ∃ ad, A = some ad ∧ w'.cell? (ad.add k) = some (.int .i64 (xs.getD k 0)) ∧ base ≤ ad.block := by
  obtain ⟨ad, rfl, hb, hc⟩ := (row_sl h).at_ (k := k) (by simpa using hk)
  rcases h with ⟨h0, _⟩ | ⟨g, cur, hA, h1, hg, hl, ht⟩
  · cases h0
  · cases hA
    refine ⟨_, rfl, ?_, h1⟩
    have hx : (xs.map (Value.int IntKind.i64))[k]'(by simpa using hk) = .int .i64 (xs.getD k 0) := by simp [hk]
    rw [hx] at hc
    rw [← hc]
    exact World.cell?_of_block (hf.block _ (by rw [add_block]; exact hb) (by rw [add_block]; show ¬ g = S; omega))
theorem own_below {w W w' : World} {G m : Nat} {V : List Value} (h : w.ownsRow W.heap.size 4 1 (.slice (some ⟨G, 0, none⟩) m m) m V) (hb : Below w.heap.size w w') : w'.ownsRow W.heap.size 4 1 (.slice (some ⟨G, 0, none⟩) m m) m V := by
  rcases h.2 with ⟨h1, h0⟩ | ⟨g, cap, cur, hv, r⟩
  · cases h1
  · cases hv
    obtain ⟨h2, h3, h4⟩ := r
    exact ⟨h.1, .inr ⟨G, m, cur, rfl, h2, by rw [hb.block G (lt_of_blk h3)]; exact h3, h4⟩⟩
theorem own_lt {w : World} {base G m : Nat} {V : List Value} (h : w.ownsRow base 4 1 (.slice (some ⟨G, 0, none⟩) m m) m V) : G < w.heap.size := by
  rcases h.2 with ⟨h1, h0⟩ | ⟨g, cap, cur, hv, r⟩
  · cases h1
  · cases hv
    exact lt_of_blk r.2.1
theorem own_drewN {w : World} {base G m : Nat} {V : List Value} (h : w.ownsRow base 4 1 (.slice (some ⟨G, 0, none⟩) m m) m V) (n : Nat) : (w.drewN n).ownsRow base 4 1 (.slice (some ⟨G, 0, none⟩) m m) m V := h
theorem cnt_le (n a b : Int) (j : Nat) (hj : j ≤ 4) : Rg.cnt n a b j ≤ 4 := by
  have h : ∀ j, Rg.cnt n a b j ≤ j := by
    intro j
    induction j with
    | zero => simp [Rg.cnt]
    | succ j ih => unfold Rg.cnt; split <;> omega
  have := h j
  omega
theorem seen0 {w W : World} {base m : Nat} {v' : Obj} (h : w.ownsRow base 4 1 (.slice (some ⟨(W.alloc v').heap.size, 0, none⟩) m m) m (madeCells (Value.bool false).cells (m * 1)).toList) : w.ownsRow base 4 1 (.slice (some ⟨W.heap.size + 1, 0, none⟩) m m) m (rowV m []) := by
  rw [madeRow _ _ rfl, ← rowV_nil m, alloc_size] at h
  exact h
section
variable {w : World} {base G m a b : Nat} {V : List Int}
theorem seenAt (h : w.ownsRow base 4 1 (.slice (some ⟨G, 0, none⟩) m m) m (rowV m V)) (ha : a < m) (hn : (a : Int) ∉ V) : w.cell? ⟨G, a, none⟩ = some (.bool false) := by
  rw [h.cellAt a (by omega), rowV_at m V a ha, decide_eq_false hn]
theorem seenSet (h : w.ownsRow base 4 1 (.slice (some ⟨G, 0, none⟩) m m) m (rowV m V)) (ha : a < m) : (w.setCell ⟨G, a, none⟩ (.bool true)).ownsRow base 4 1 (.slice (some ⟨G, 0, none⟩) m m) m (rowV m (V ++ [(a : Int)])) := by
  have ho := (h.stored a (.bool true)).1
  rw [rowV_set m V a ha] at ho
  exact ho
theorem seen1 (h : w.ownsRow base 4 1 (.slice (some ⟨G, 0, none⟩) m m) m (rowV m [])) (ha : a < m) : w.cell? ⟨G, a, none⟩ = some (.bool false) := seenAt h ha (by simp)
theorem seen2 (h : w.ownsRow base 4 1 (.slice (some ⟨G, 0, none⟩) m m) m (rowV m [])) (ha : a < m) : (w.setCell ⟨G, a, none⟩ (.bool true)).ownsRow base 4 1 (.slice (some ⟨G, 0, none⟩) m m) m (rowV m [(a : Int)]) := seenSet h ha
theorem seen3 (h : w.ownsRow base 4 1 (.slice (some ⟨G, 0, none⟩) m m) m (rowV m [(a : Int)])) (hb : b < m) (hab : b ≠ a) : w.cell? ⟨G, b, none⟩ = some (.bool false) := seenAt h hb (by simp; omega)
theorem seen4 (h : w.ownsRow base 4 1 (.slice (some ⟨G, 0, none⟩) m m) m (rowV m [(a : Int)])) (hb : b < m) : (w.setCell ⟨G, b, none⟩ (.bool true)).ownsRow base 4 1 (.slice (some ⟨G, 0, none⟩) m m) m (rowV m (Rg.vis m a b 0)) := seenSet h hb
end
set_option maxRecDepth 100000 in
set_option maxHeartbeats 8000000 in
theorem disj_walk (nb c0 c1 : Int) (w : World) (h0 : 0 ≤ nb) (h1 : nb ≤ 255) (h2 : 0 ≤ c0) (h3 : c0 ≤ 255) (h4 : 0 ≤ c1) (h5 : c1 ≤ 255) (hs : 0 < w.heap.size) (g : Signs w) :
    Calls Tryd.prog 9 #[.int .u8 nb, .agg #[.int .u8 c0, .int .u8 c1]] w fun e w' => e = .returned (.bool true) ∧ Below w.heap.size w w' := by
  obtain ⟨i0, hi, hz0, hz1, hz2⟩ := info_parts info4
  have HN := hide (fun W => nodes_any nb W h0 h1)
  have bn : 4 ≤ 4 + nb % 13 ∧ 4 + nb % 13 ≤ 16 := by omega
  obtain ⟨m, hm⟩ := Int.eq_ofNat_of_zero_le (show 0 ≤ 4 + nb % 13 by omega)
  rw [hm] at HN bn
  clear hm
  obtain ⟨bn, bn'⟩ := bn
  have ba : 0 ≤ c0.tmod m ∧ c0.tmod m < m := by rw [Int.tmod_eq_emod_of_nonneg h2]; exact emod_rng _ _ (by omega)
  have bb : 0 ≤ c1.tmod m ∧ c1.tmod m < m := by rw [Int.tmod_eq_emod_of_nonneg h4]; exact emod_rng _ _ (by omega)
  obtain ⟨a, ea⟩ := Int.eq_ofNat_of_zero_le ba.1
  obtain ⟨b, eb⟩ := Int.eq_ofNat_of_zero_le bb.1
  rw [ea] at ba
  rw [eb] at bb
  have ham : a < m := by omega
  have hbm : b < m := by omega
  clear ba bb
  have gB := hide (fun W (h : Below w.heap.size w W) => Signs.below g h hs)
  have bW := hide (fun o => Below.alloc (Below.refl w.heap.size w) (Nat.le_refl _) o)
  clear g
  by_cases hab : a = b
  · subst hab
    go_enter Tryd.func9, Tryd.ntmps9
    go_wp2_with fail
    refine (HN.out _).mono ?_
    rintro e w' ⟨rfl, rfl⟩
    clear HN
    go_wp2_with fail
    refine (path_none m 0 a a 1 _ (by omega) (by exact gB.out _ (bW.out _)) (path_self _ _ _ _)).mono ?_
    rintro e w1 ⟨rfl, rfl⟩
    go_wp2_with fail
    refine (path_none m 1 a a 2 _ (by omega) (by exact gB.out _ (bW.out _)) (path_self _ _ _ _)).mono ?_
    rintro e w1 ⟨rfl, rfl⟩
    go_wp2_with fail
    refine (rlives_any _ (by exact gB.out _ (bW.out _))).mono ?_
    rintro e w1 ⟨rfl, hb⟩
    have HB := hide hb
    clear hb
    go_wp2_with fail
    go_ret
    exact ⟨rfl, (bW.out _).trans (HB.out.mono (bW.out _).size)⟩
  · have hab1 : ((a : Int) == (b : Int)) = false := by simp; omega
    have hab2 : (a == b) = false := by simp; omega
    have CK := hide (chk_all m a b bn bn' (by omega) (by omega) (by omega) (by omega) (by omega))
    go_enter Tryd.func9, Tryd.ntmps9
    go_wp2_with fail
    refine (HN.out _).mono ?_
    rintro e w' ⟨rfl, rfl⟩
    clear HN
    go_wp2_with (at_make; refine wpList_make_full _ rfl _ _ 76 rfl w.heap.size 4 i0 (.bool false) 1 Tryd.underlying76 hi hz0 hz1 .i64 .i64 _ _ m rfl rfl rfl rfl (by rw [hz2]; omega) (by unfold maxLen; omega) (bW.out _).size ?_; intro w2 hown2 hg2; have hown3 := seen0 hown2; have hc := seen1 hown3 ham; have hf := hown3.frozenAt a; have ho := seen2 hown3 ham; have hc' := seen3 ho hbm (fun h => hab h.symm); have hf' := ho.frozenAt b; have ho' := hide (seen4 ho hbm); clear hown2 hown3 ho)
    clear hc hf hc' hf'
    have BW2 := hide (((bW.out _).grown hg2 (bW.out _).size (by simp)).setCell (p := ⟨w.heap.size + 1, a, none⟩) (by show w.heap.size ≤ w.heap.size + 1; omega) (.bool true) |>.setCell (p := ⟨w.heap.size + 1, b, none⟩) (by show w.heap.size ≤ w.heap.size + 1; omega) (.bool true))
    clear hg2
    go_loopg [13, 14] 2 (fun gk c i wr => ∃ d : Nat, gk + d = 2 ∧ c = .int .i64 (Rg.cnt m a b (2 * d)) ∧ i = .int .u8 d ∧ Hid (wr.ownsRow w.heap.size 4 1 (.slice (some ⟨w.heap.size + 1, 0, none⟩) m m) m (rowV m (Rg.vis m a b (2 * d)))) ∧ Hid (Below w.heap.size w wr))
    case atStart => exact ⟨0, rfl, rfl, rfl, ho', BW2⟩
    case round =>
      obtain ⟨d, hgd, rfl, rfl, HO, HB⟩ := hrel
      clear ho' BW2
      obtain ⟨gd, hgd'⟩ : ∃ x, x = gk := ⟨_, rfl⟩
      obtain ⟨wd, hwd⟩ : ∃ x, x = wr := ⟨_, rfl⟩
      subst hwd
      by_cases hlt : d < 2
      · have hd1 : decide ((d : Int) ≤ 1) = true := decide_eq_true (by omega)
        have hb0 : Rg.cnt m a b (2 * d) ≤ 4 := cnt_le m a b (2 * d) (by omega)
        go_wp2_with fail
        go_loopg [13, 15] 2 (fun gk c i wr => ∃ h : Nat, gk + h = 2 ∧ c = .int .i64 (Rg.cnt m a b (2 * d + h)) ∧ i = .int .i64 (h + 1 : Int) ∧ Hid (wr.ownsRow w.heap.size 4 1 (.slice (some ⟨w.heap.size + 1, 0, none⟩) m m) m (rowV m (Rg.vis m a b (2 * d + h)))) ∧ Hid (Below w.heap.size w wr))
        case atStart => exact ⟨0, rfl, rfl, rfl, HO, HB⟩
        case round =>
          obtain ⟨h, hgh, rfl, rfl, HO1, HB1⟩ := hrel
          clear HO HB
          obtain ⟨gh, hgh'⟩ : ∃ x, x = gk := ⟨_, rfl⟩
          obtain ⟨wh, hwh⟩ : ∃ x, x = wr := ⟨_, rfl⟩
          subst hwh
          by_cases hlh : h < 2
          · have hj1 : (2 * d + h) / 2 = d := by omega
            have hj2 : (2 * d + h) % 2 + 1 = h + 1 := by omega
            have hcn : Rg.cnt m a b (2 * d + (h + 1)) = Rg.cnt m a b (2 * d + h) + if Rg.okJ m a b (2 * d + h) then 1 else 0 := rfl
            have hvn : Rg.vis m a b (2 * d + (h + 1)) = Rg.vis m a b (2 * d + h) ++ Rg.lJ m a b (2 * d + h) := rfl
            have hb1 : Rg.cnt m a b (2 * d + h) ≤ 4 := cnt_le m a b _ (by omega)
            have gS1 := hide (gB.out _ HB1.out)
            have szS := HB1.out.size
            cases hok : Rg.okJ m a b (2 * d + h) with
            | false =>
              rw [hok] at hcn
              have hl : Rg.lJ m a b (2 * d + h) = [] := by unfold Rg.lJ; rw [hok]; rfl
              rw [hl, List.append_nil] at hvn
              unfold Rg.okJ at hok
              rw [hj1, hj2] at hok
              have PN := hide (path_none m d a b ((h + 1 : Nat) : Int) wh (by omega) gS1.out hok)
              have HCN := hide hcn
              have HVN := hide hvn
              clear hok hl hcn hvn hj1 hj2
              go_wp2_with fail
              refine PN.out.mono ?_
              rintro e w7 ⟨rfl, rfl⟩
              go_wp2_with fail
              go_roundg (gh - 1)
              case measure => omega
              case rel => exact ⟨h + 1, by omega, by rw [HCN.out]; rfl, by go_num, by rw [HVN.out]; exact HO1, HB1⟩
            | true =>
              rw [hok] at hcn
              have DJ := disj_of m a b (2 * d + h) CK.out (by omega)
              have hl : Rg.lJ m a b (2 * d + h) = Rg.pathL m d a b ((h + 1 : Nat) : Int) := by unfold Rg.lJ; rw [hok, hj1, hj2]; rfl
              have hlen := lJ_len m a b (2 * d + h)
              obtain ⟨D1, D2, D3, D4⟩ := DJ
              have D4 := D4 hok
              unfold Rg.okJ at hok
              unfold Rg.hopAt at D3
              rw [hj1, hj2] at hok D4
              rw [hj1] at D3
              rw [hl] at hvn D1 D2 D3 D4 hlen
              have PN := hide (path_some m d a b ((h + 1 : Nat) : Int) wh (by omega) gS1.out (by have := hs; omega) hok)
              generalize Rg.pathL m d a b ((h + 1 : Nat) : Int) = L at *
              obtain ⟨ln, hln⟩ : ∃ ln, L.length = ln := ⟨_, rfl⟩
              rw [hln] at D1 D2 D3 D4 hlen PN
              have HLN := hide hln
              have HD1 := hide D1
              have HD2 := hide D2
              have HD3 := hide D3
              have SRC := hide (fun (W : World) (g : Signs W) => src_any m d b ((h + 1 : Nat) : Int) W (by omega) g)
              rw [D4] at SRC
              have HCN := hide hcn
              have HVN := hide hvn
              have hh1 : decide ((h : Int) + 1 ≤ 2) = true := decide_eq_true (by omega)
              clear hok hl hcn hvn hj1 hj2 hln D1 D2 D3 D4
              go_wp2_with fail
              refine PN.out.mono ?_
              rintro e w7 ⟨⟨A, rfl, hrow⟩, hbel⟩
              have RW := hide hrow
              have HB7 := hide (HB1.out.trans (hbel.mono szS))
              have HO7 := hide (own_below HO1.out hbel)
              clear hrow hbel PN
              go_wp2_with fail
              go_loopg [18, 19] ln (fun gk t i wr => ∃ k : Nat, gk + k = ln ∧ t = .int .i64 (((a : Int) :: L).getD k 0) ∧ i = .int .i64 k ∧ Hid (wr.ownsRow w.heap.size 4 1 (.slice (some ⟨w.heap.size + 1, 0, none⟩) m m) m (rowV m (Rg.vis m a b (2 * d + h) ++ L.take k))) ∧ Hid (Below w.heap.size w wr) ∧ Hid (Far (fun q => q = w.heap.size + 1) w7 wr))
              case atStart => exact ⟨0, rfl, rfl, rfl, by simpa [Hid] using HO7, HB7, Far.refl _ _⟩
              case round =>
                obtain ⟨k, hgk, rfl, rfl, HO8, HB8, HF8⟩ := hrel
                clear HO7 HB7
                by_cases hlk : k < ln
                · have hx := HD1.out k hlk
                  obtain ⟨x, hxe⟩ := Int.eq_ofNat_of_zero_le hx.1
                  have hnew := HD2.out k hlk
                  have hhop := HD3.out k hlk
                  obtain ⟨ad, rfl, hc, hbk⟩ := int_row_far (k := k) RW.out HF8.out (own_lt HO1.out) (by rw [HLN.out]; exact hlk)
                  have htk : L.take (k + 1) = L.take k ++ [L.getD k 0] := by
                    have hk' : k < L.length := by rw [HLN.out]; exact hlk
                    rw [List.take_succ_eq_append_getElem hk']; simp [hk']
                  have hnx : ((a : Int) :: L).getD (k + 1) 0 = L.getD k 0 := rfl
                  rw [hxe] at hx hnew hhop hc htk hnx
                  have xm : x < m := by omega
                  have hse := seenAt HO8.out xm hnew
                  have hsf := HO8.out.frozenAt x
                  have hc2 : (wr.setCell ⟨w.heap.size + 1, x, none⟩ (.bool true)).cell? (ad.add k) = some (.int .i64 x) := by
                    rw [World.cell?_setCell_other _ _ _ _ (fun e => by
                      have := own_lt HO1.out
                      have h1 : (ad.add k).block = w.heap.size + 1 := (congrArg (fun p : Addr => p.block) e : _) |> fun h => by first | exact h | exact h.symm
                      rw [add_block] at h1
                      omega)]
                    exact hc
                  have HO9 := hide (seenSet HO8.out xm)
                  have HTK := hide htk
                  have HNX := hide hnx
                  have HB9 := hide (HB8.out.setCell (p := ⟨w.heap.size + 1, x, none⟩) (by show w.heap.size ≤ w.heap.size + 1; omega) (.bool true))
                  have HF9 := hide (HF8.out.setCell (p := ⟨w.heap.size + 1, x, none⟩) (.inl rfl) (.bool true))
                  have DD := hide (fun (W : World) (g : Signs W) => dist_any m d (((a : Int) :: L).getD k 0) x W (by omega) g)
                  clear hx hxe hnew htk hnx
                  obtain ⟨t, ht⟩ : ∃ t, ((a : Int) :: L).getD k 0 = t := ⟨_, rfl⟩
                  rw [ht] at DD hhop ⊢
                  clear ht
                  have d1 : decide ((x : Int) < 0) = false := decide_eq_false (by omega)
                  have d2 : decide (m ≤ x) = false := decide_eq_false (by omega)
                  have d3 : decide ((m : Int) ≤ x) = false := decide_eq_false (by omega)
                  by_cases hk0 : k = 0
                  · have k0 : decide ((0 : Int) < k) = false := decide_eq_false (by omega)
                    have k0' : decide (0 < k) = false := decide_eq_false (by omega)
                    have k0'' : ¬ 0 < k := by omega
                    replace hhop : Rg.dist m d t x = 2 ∨ Rg.dist m d t x = 1 := hhop.imp id And.right
                    clear hk0
                    rcases hhop with hh2 | hh2
                    all_goals
                      rw [hh2] at DD
                      clear hh2
                      go_wp2_with fail
                      refine (DD.out _ (by exact gB.out _ HB9.out)).mono ?_
                      rintro e w9 ⟨rfl, rfl⟩
                      go_wp2_with fail
                      go_roundg (gk - 1)
                      case measure => omega
                      case rel => exact ⟨k + 1, by omega, by rw [HNX.out], by go_num, by rw [HTK.out, ← List.append_assoc]; exact HO9, HB9, HF9⟩
                  · have k0 : decide ((0 : Int) < k) = true := decide_eq_true (by omega)
                    rcases hhop with hh2 | ⟨hk00, hh2⟩
                    · rw [hh2] at DD
                      clear hh2
                      go_wp2_with fail
                      refine (DD.out _ (by exact gB.out _ HB9.out)).mono ?_
                      rintro e w9 ⟨rfl, rfl⟩
                      go_wp2_with fail
                      go_roundg (gk - 1)
                      case measure => omega
                      case rel => exact ⟨k + 1, by omega, by rw [HNX.out], by go_num, by rw [HTK.out, ← List.append_assoc]; exact HO9, HB9, HF9⟩
                    · exact absurd hk00 hk0
                · obtain rfl : k = ln := by omega
                  have HT : L.take k = L := List.take_of_length_le (by rw [HLN.out]; omega)
                  go_wp2_with fail
                  refine (SRC.out _ (by exact gB.out _ HB8.out)).mono ?_
                  rintro e w9 ⟨rfl, q9, rfl⟩
                  go_wp2_with fail
                  go_roundg (gh - 1)
                  case measure => omega
                  case rel => exact ⟨h + 1, by omega, by rw [HCN.out]; rfl, by go_num, by rw [HVN.out]; have := HO8; rw [HT] at this; exact own_drewN this.out q9, below_drewN HB8.out q9⟩
          · go_wp2_with fail
            go_roundg (gd - 1)
            case measure => omega
            case rel => exact ⟨d + 1, by omega, by rw [show 2 * (d + 1) = 2 * d + h from by omega], by go_num, by rw [show 2 * (d + 1) = 2 * d + h from by omega]; exact HO1, HB1⟩
      · have hd2 : 2 * d = 4 := by omega
        have hcnt := cnt_of m a b CK.out
        rw [hd2]
        rw [hcnt]
        have D0 := hide (fun (W : World) (g : Signs W) => dist_any m 0 a b W (by omega) g)
        have D1 := hide (fun (W : World) (g : Signs W) => dist_any m 1 a b W (by omega) g)
        unfold Rg.near
        clear hcnt
        generalize Rg.dist m 0 a b = x0 at *
        generalize Rg.dist m 1 a b = x1 at *
        have gSd := hide (gB.out _ HB.out)
        by_cases hx0 : x0 = 1
        · subst hx0
          simp only [beq_self_eq_true, Bool.true_or, if_true]
          go_wp2_with fail
          refine (D0.out _ gSd.out).mono ?_
          rintro e w9 ⟨rfl, rfl⟩
          go_wp2_with fail
          refine (rlives_any _ gSd.out).mono ?_
          rintro e w1 ⟨rfl, hb⟩
          have HZ := hide hb
          clear hb
          go_wp2_with fail
          go_ret
          exact ⟨rfl, HB.out.trans (HZ.out.mono HB.out.size)⟩
        · have hx0' : (x0 == 1) = false := by simpa using hx0
          by_cases hx1 : x1 = 1
          · subst hx1
            simp only [beq_self_eq_true, Bool.or_true, if_true]
            go_wp2_with fail
            refine (D0.out _ gSd.out).mono ?_
            rintro e w9 ⟨rfl, rfl⟩
            go_wp2_with fail
            refine (D1.out _ gSd.out).mono ?_
            rintro e w9 ⟨rfl, rfl⟩
            go_wp2_with fail
            refine (rlives_any _ gSd.out).mono ?_
            rintro e w1 ⟨rfl, hb⟩
            have HZ := hide hb
            clear hb
            go_wp2_with fail
            go_ret
            exact ⟨rfl, HB.out.trans (HZ.out.mono HB.out.size)⟩
          · have hx1' : (x1 == 1) = false := by simpa using hx1
            rw [hx0', hx1']
            simp only [Bool.or_false, Bool.false_eq_true, if_false]
            go_wp2_with fail
            refine (D0.out _ gSd.out).mono ?_
            rintro e w9 ⟨rfl, rfl⟩
            go_wp2_with fail
            refine (D1.out _ gSd.out).mono ?_
            rintro e w9 ⟨rfl, rfl⟩
            go_wp2_with fail
            refine (rlives_any _ gSd.out).mono ?_
            rintro e w1 ⟨rfl, hb⟩
            have HZ := hide hb
            clear hb
            go_wp2_with fail
            go_ret
            exact ⟨rfl, HB.out.trans (HZ.out.mono HB.out.size)⟩
end Go.Proofs.YtbniijmabebhoaaDoor
