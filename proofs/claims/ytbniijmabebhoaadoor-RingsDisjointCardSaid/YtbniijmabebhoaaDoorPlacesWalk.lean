/- The walk of RingsPlaces: each way's places number the ring; nothing that was there has turned. -/
import Derived.Test.YtbniijmabebhoaaDoorPlacesLaw
import Derived.OwnWalk
import Derived.Deep.LoopGhost
namespace Go.Proofs.YtbniijmabebhoaaDoor
open Go.RowKit
set_option linter.unusedVariables false
theorem info4 : (Tryd.prog.info? 4).map (fun i => (i.zero, i.size, i.bytes)) = some (some (.bool false), 1, 1) := by kernel_rfl
set_option maxRecDepth 100000 in
set_option maxHeartbeats 4000000 in
theorem places_walk (nb fb : Int) (w : World) (h0 : 0 ≤ nb) (h1 : nb ≤ 255) (h2 : 0 ≤ fb) (h3 : fb ≤ 255) (hs : 0 < w.heap.size) (g : Signs w) :
    Calls Tryd.prog 11 #[.int .u8 nb, .int .u8 fb] w fun e w' => e = .returned (.bool true) ∧ Below w.heap.size w w' := by
  obtain ⟨i0, hi, hz0, hz1, hz2⟩ := info_parts info4
  have HN := hide (nodes_any nb w h0 h1)
  have bn : 4 ≤ 4 + nb % 13 ∧ 4 + nb % 13 ≤ 16 := by omega
  obtain ⟨m, hm⟩ := Int.eq_ofNat_of_zero_le (show 0 ≤ 4 + nb % 13 by omega)
  rw [hm] at HN bn
  clear hm
  obtain ⟨bn, bn'⟩ := bn
  have bf : 0 ≤ fb.tmod m ∧ fb.tmod m < m := by
    rw [Int.tmod_eq_emod_of_nonneg h2]; exact emod_rng _ _ (by omega)
  obtain ⟨f, ef⟩ : ∃ f, fb.tmod m = f := ⟨_, rfl⟩
  rw [ef] at bf
  obtain ⟨bf, bf'⟩ := bf
  have nx : (f + 1).tmod m = if f + 1 = m then 0 else f + 1 := by
    rw [Int.tmod_eq_emod_of_nonneg (by omega)]
    split
    · rename_i h; rw [h, Int.emod_self]
    · exact Int.emod_eq_of_lt (by omega) (by omega)
  have bx : 0 ≤ (f + 1).tmod m ∧ (f + 1).tmod m < m := by rw [nx]; split <;> omega
  have p1 : Rg.place m 0 f f = 0 := by rw [place_is m 0 f f bn bn' (.inl rfl) bf bf' bf bf']; simp
  have p2 : Rg.place m 0 f ((f + 1).tmod m) = 1 := by rw [place_is m 0 f _ bn bn' (.inl rfl) bf bf' bx.1 bx.2, nx]; simp; split <;> split <;> omega
  have p3 : Rg.place m 1 f ((f + 1).tmod m) = 0 := by rw [place_is m 1 f _ bn bn' (.inr rfl) bf bf' bx.1 bx.2, nx]; simp
  have p4 : Rg.place m 1 f f = 1 := by rw [place_is m 1 f f bn bn' (.inr rfl) bf bf' bf bf']; simp; split <;> split <;> omega
  have P1 := hide (fun (W : World) (g : Signs W) => place_any m 0 f f W (by omega) g)
  have P2 := hide (fun (W : World) (g : Signs W) => place_any m 0 f ((f + 1).tmod m) W (by omega) g)
  have P3 := hide (fun (W : World) (g : Signs W) => place_any m 1 f ((f + 1).tmod m) W (by omega) g)
  have P4 := hide (fun (W : World) (g : Signs W) => place_any m 1 f f W (by omega) g)
  rw [p1] at P1
  rw [p2] at P2
  rw [p3] at P3
  rw [p4] at P4
  clear p1 p2 p3 p4 nx
  obtain ⟨x, ex⟩ : ∃ x, (f + 1).tmod m = x := ⟨_, rfl⟩
  rw [ex] at P2 P3 bx
  obtain ⟨bx, bx'⟩ := bx
  have gS := hide g
  clear g
  go_enter Tryd.func11, Tryd.ntmps11
  go_wp2_with fail
  refine HN.out.mono ?_
  rintro e w' ⟨rfl, rfl⟩
  clear HN
  go_wp2_with fail
  refine (P1.out _ (by exact gS.out)).mono ?_
  rintro e w1 ⟨rfl, m1, rfl⟩
  go_wp2_with fail
  refine (P2.out _ (by exact gS.out)).mono ?_
  rintro e w1 ⟨rfl, m2, rfl⟩
  go_wp2_with fail
  refine (P3.out _ (by exact gS.out)).mono ?_
  rintro e w1 ⟨rfl, m3, rfl⟩
  go_wp2_with fail
  refine (P4.out _ (by exact gS.out)).mono ?_
  rintro e w1 ⟨rfl, m4, rfl⟩
  clear P1 P2 P3 P4
  go_wp2_with fail
  go_loopg [8] 2 (fun gk i wr => ∃ d : Nat, gk + d = 2 ∧ i = .int .u8 d ∧ Hid (Below w.heap.size w wr))
  case atStart => exact ⟨0, rfl, rfl, below_drewN (Below.refl _ _) _⟩
  case round =>
    obtain ⟨d, hgd, rfl, BW⟩ := hrel
    obtain ⟨go, hgo⟩ : ∃ x, x = gk := ⟨_, rfl⟩
    obtain ⟨wd, hwd⟩ : ∃ x, x = wr := ⟨_, rfl⟩
    subst hwd
    by_cases hlt : d < 2
    · have hd : (d : Int) = 0 ∨ (d : Int) = 1 := by omega
      have hsz := BW.out.size
      go_wp2_with (at_make; refine wpList_make_full _ rfl _ _ 76 rfl w.heap.size 4 i0 (.bool false) 1 Tryd.underlying76 hi hz0 hz1 .i64 .i64 _ _ m rfl rfl rfl rfl (by rw [hz2]; omega) (by unfold maxLen; omega) hsz ?_; intro w2 hown2 hg2)
      rw [madeRow _ _ rfl, ← rowP_zero m (fun a => (Rg.place m d f a).toNat)] at hown2
      have HO := hide hown2
      have HB := hide (BW.out.grown hg2 hsz (by simp))
      clear hown2 hg2
      go_loopg [10] m (fun gk' i w5 => ∃ a : Nat, gk' + a = m ∧ i = .int .i64 a ∧ Hid (w5.ownsRow w.heap.size 4 1 (.slice (some ⟨wd.heap.size, 0, none⟩) m m) m (rowP m (fun a => (Rg.place m d f a).toNat) a)) ∧ Hid (Below w.heap.size w w5))
      case atStart => exact ⟨0, rfl, rfl, HO, HB⟩
      case round =>
        obtain ⟨a, hga, rfl, HO5, HB5⟩ := hrel
        clear HO HB
        obtain ⟨w5, hw5⟩ : ∃ x, x = wr := ⟨_, rfl⟩
        subst hw5
        by_cases hla : a < m
        · have pr := place_rng m d f a bn bn' hd bf bf' (by omega) (by omega)
          have hat := rowP_at m (fun a => (Rg.place m d f a).toNat) a (by have := pr; omega) (fun b hb h => by
            have r' := place_rng m d f b bn bn' hd bf bf' (by omega) (by omega)
            have := place_inj m d f b a bn bn' hd bf bf' (by omega) (by omega) (by omega) (by omega) (by omega)
            omega)
          have hset := hide (rowP_set m (fun a => (Rg.place m d f a).toNat) a (by have := pr; omega))
          have hc := HO5.out.cellAt (Rg.place m d f a).toNat (by omega)
          rw [hat] at hc
          have hf := HO5.out.frozenAt (Rg.place m d f a).toNat
          have ho := (HO5.out.stored (Rg.place m d f a).toNat (.bool true)).1
          rw [hset.out] at ho
          have HO := hide ho
          have PS := hide (fun h hh hp => place_src m d f a h bn bn' hd bf bf' (by omega) (by omega) hh hp)
          have PA := hide (fun (W : World) (g : Signs W) => place_any m d f a W (by omega) g)
          clear ho hat hset
          obtain ⟨p, hp⟩ := Int.eq_ofNat_of_zero_le pr.1
          rw [hp] at pr PS PA hc hf HO
          simp only [Int.toNat_natCast] at hc hf
          have pm : p < m := by omega
          clear hp pr
          go_wp2_with fail
          refine (PA.out _ (by exact gS.out.below HB5.out hs)).mono ?_
          rintro e w6 ⟨rfl, q1, rfl⟩
          have d1 : decide ((p : Int) < 0) = false := decide_eq_false (by omega)
          have d2 : decide (m ≤ p) = false := decide_eq_false (by omega)
          have d3 : decide ((m : Int) ≤ p) = false := decide_eq_false (by omega)
          go_wp2_with fail
          clear d1 d2 d3
          obtain ⟨ga, hga'⟩ : ∃ x, x = gk := ⟨_, rfl⟩
          go_loopg [12] 2 (fun gk' i w6 => ∃ h q : Nat, gk' + h = 3 ∧ 1 ≤ h ∧ i = .int .i64 h ∧ w6 = ((w5.drewN q1).setCell ⟨wd.heap.size, p, none⟩ (.bool true)).drewN q)
          case atStart => exact ⟨1, 0, rfl, Nat.le_refl _, rfl, rfl⟩
          case round =>
            obtain ⟨h, q, hgh, hh, rfl, rfl⟩ := hrel
            have gS5 : Signs ((w5.drewN q1).setCell ⟨wd.heap.size, p, none⟩ (.bool true)) := gS.out.below ((below_drewN HB5.out q1).setCell hsz _) hs
            by_cases hl2 : h ≤ 2
            · have hh' : (h : Int) = 1 ∨ (h : Int) = 2 := by omega
              have SS := hide (fun (W : World) (g : Signs W) => src_any m d a h W (by omega) g)
              have SP := hide (fun (W : World) (g : Signs W) => place_any m d f (Rg.src m d a h) W (by omega) g)
              have hP := PS.out h hh'
              by_cases hph : h ≤ p
              · rw [hP (by omega)] at SP
                clear hP
                obtain ⟨b, hb⟩ : ∃ b, Rg.src m d a h = b := ⟨_, rfl⟩
                rw [hb] at SS SP
                clear hb PS PA
                go_wp2_with fail
                refine (SS.out _ (by exact gS5)).mono ?_
                rintro e w7 ⟨rfl, q2, rfl⟩
                go_wp2_with fail
                refine (SP.out _ (by exact gS5)).mono ?_
                rintro e w7 ⟨rfl, q3, rfl⟩
                go_wp2_with fail
                go_roundg (gk - 1)
                case measure => omega
                case rel => exact ⟨h + 1, _, by omega, by omega, by go_num, rfl⟩
              · clear hP SS SP
                go_wp2_with fail
                go_roundg (gk - 1)
                case measure => omega
                case rel => exact ⟨h + 1, _, by omega, by omega, by go_num, rfl⟩
            · go_wp2_with fail
              go_roundg (ga - 1)
              case measure => omega
              case rel => exact ⟨a + 1, by omega, by go_num, HO.out, below_drewN ((below_drewN HB5.out q1).setCell hsz _) q⟩
        · go_wp2_with fail
          go_roundg (go - 1)
          case measure => omega
          case rel => exact ⟨d + 1, by omega, by go_num, HB5⟩
    · go_wp2_with fail
      refine (rlives_any _ (by exact gS.out.below BW.out hs)).mono ?_
      rintro e w1 ⟨rfl, hb⟩
      have HB := hide hb
      clear hb
      go_wp2_with fail
      go_ret
      exact ⟨rfl, BW.out.trans (HB.out.mono BW.out.size)⟩
end Go.Proofs.YtbniijmabebhoaaDoor
