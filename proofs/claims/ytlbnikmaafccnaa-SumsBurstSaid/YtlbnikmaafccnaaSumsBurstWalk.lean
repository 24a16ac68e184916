/- The walk of SumsBurst: what is summed is got; with any bits turned within 32 neighbouring ones, it is not; nothing that was there has turned. -/
import Derived.Test.YtlbnikmaafccnaaSumsEvenWalk
import Derived.Test.YtlbnikmaafccnaaSumsBurstLaw
import Derived.RegionTactic
import Derived.BigRegion
import Derived.ChangeAlike
namespace Go.Proofs.Ytlbnikmaafccnaa
open Go.RowKit Sm Bk
set_option linter.unusedVariables false
theorem ByRow.blk {w : World} {base g : Nat} {xs : List Nat} (h : ByRow w base (some ⟨g, 0, none⟩) xs) : ∃ cur, base ≤ g ∧ w.heap[g]? = some (.cells cur 5 (0, 0)) ∧ xs.length ≤ cur.size ∧ cur.toList.take xs.length = xs.map bv := by
  rcases h with ⟨h, _⟩ | ⟨g', cur, h, h2, h3, h4, h5⟩
  · cases h
  · cases h
    exact ⟨cur, h2, h3, h4, h5⟩
set_option maxRecDepth 100000 in
set_option maxHeartbeats 4000000 in
theorem sburst_walk (A : Option Addr) (n c bt at_ : Nat) (bs : List Nat) (w : World) (h1 : bs.length = n) (l1 : n ≤ 300) (hnc : n ≤ c) (hc : c ≤ maxLen) (b1 : By bs) (hbt : bt < 4294967296) (hat : at_ < 65536) (hb0 : bt ≠ 0) (s1 : Sl w w.heap.size A (bs.map bv)) :
    Calls Try.prog 11 #[.slice A n c, .int .u32 (bt : Int), .int .u16 (at_ : Int)] w fun e w' => e = .returned (.bool true) ∧ Below w.heap.size w w' := by
  have hd1 : decide ((300 : Int) < n) = false := decide_eq_false (by omega)
  have hd2 : ((bt : Int) == 0) = false := by simp; omega
  obtain ⟨fi, hfi, hfi'⟩ : ∃ fi : Nat, (at_ : Int) % (8 * ((n : Int) + 4) - 31) = (fi : Int) ∧ fi + 31 < 8 * (n + 4) := ⟨at_ % (8 * (n + 4) - 31), by rw [show (8 : Int) * (n + 4) - 31 = ((8 * (n + 4) - 31 : Nat) : Int) from by omega]; exact (Int.natCast_emod _ _).symm, by have := Nat.mod_lt at_ (show 0 < 8 * (n + 4) - 31 by omega); omega⟩
  have H1 := hide h1
  have BY := hide b1
  have S1 := hide s1
  have hm : n ≤ maxLen := by omega
  have PT := hide (put_any (some ⟨w.heap.size, 0, none⟩) 1 1 [bs] (w.alloc (.cells #[.slice A n c] 63)) rfl (by omega) (parts_of [(A, c, bs)] (heap_alloc_new w _) (by simp [h1]) (by simp; exact ⟨(s1.alloc (Nat.le_refl _) _).more (by simp), b1, by omega⟩)) (by simp; omega))
  rw [show [bs].flatten = bs from by simp] at PT
  obtain ⟨N, hN⟩ : ∃ N, n + 4 = N := ⟨_, rfl⟩
  have hsl : (putV bs).length = N := by rw [putV_len, h1, hN]
  have hck := check_put bs
  have htk : (putV bs).take n = bs := by have := put_take bs; rwa [hsl, show N - 4 = n from by omega] at this
  have hsy : By (putV bs) := putV_by b1
  have LW := hide (burst_law bs bt fi b1 hbt hb0 (by omega))
  rw [hsl] at PT
  obtain ⟨sv, hsv⟩ : ∃ sv, putV bs = sv := ⟨_, rfl⟩
  rw [hsv] at PT hsl hck htk hsy LW
  have HL := hide hsl
  have HCK := hide hck
  have HTK := hide htk
  have HSY := hide hsy
  have HN := hide hN
  have hN' : (n : Int) + 4 = (N : Int) := by omega
  have hNl : N ≤ 304 := by omega
  rw [hN'] at hfi
  clear h1 b1 s1 hsl hck htk hsy hsv hc hN hb0
  go_enter Try.func11, Try.ntmps11
  go_wp2_with fail
  refine PT.out.mono ?_
  rintro e w1 ⟨⟨A1, rfl, r1⟩, bb1⟩
  obtain ⟨g, rfl⟩ : ∃ g, A1 = some ⟨g, 0, none⟩ := by
    rcases r1 with ⟨_, h⟩ | ⟨g, _, h, _⟩
    · have := HL.out; rw [h] at this; simp at this; omega
    · exact ⟨g, h⟩
  have R1 := hide (show ByRow w1 w.heap.size (some ⟨g, 0, none⟩) sv from by
    rcases r1 with ⟨h, _⟩ | ⟨g', cur, h, h2, h3⟩
    · cases h
    · exact .inr ⟨g', cur, h, by simp at h2; omega, h3⟩)
  have B1 := hide (((Below.refl w.heap.size w).alloc (Nat.le_refl _) (.cells #[.slice A n c] 63)).trans (bb1.mono (by simp)))
  clear bb1 r1 PT
  go_wp2_with fail
  have CK := hide (check_any (some ⟨g, 0, none⟩) N N sv w1 HL.out (by omega) (Nat.le_refl _) (by unfold maxLen; omega) HSY.out R1.out.sl)
  rw [HCK.out] at CK
  refine CK.out.mono ?_
  rintro e w2 ⟨⟨A2, rfl, r2⟩, bb2⟩
  simp only [if_true] at r2 ⊢
  rw [show N - 4 = n from by have := HN.out; omega] at r2 ⊢
  rw [HTK.out] at r2
  have R2 := hide r2
  have R12 := hide (R1.out.below bb2 (Nat.le_refl _))
  have B2 := hide (B1.out.trans (bb2.mono B1.out.size))
  clear bb2 r2 CK R1 B1
  go_wp2_with fail
  refine (same_eq A2 A n n n c _ _ bs w2 H1.out H1.out R2.out.sl ((S1.out.below B2.out).more B2.out.size)).mono ?_
  rintro e w' ⟨rfl, rfl⟩
  go_wp2_with fail
  rw [hfi]
  clear hfi
  go_loopg [11] 32 (fun gk i wr => ∃ k : Nat, gk + k = 32 ∧ i = .int .i64 k ∧ Hid (ByRow wr w.heap.size (some ⟨g, 0, none⟩) (burst sv bt fi k)) ∧ Hid (Below w.heap.size w wr))
  case atStart => exact ⟨0, rfl, rfl, R12, B2⟩
  case round =>
    obtain ⟨k, hgk, rfl, K, F⟩ := hrel
    clear R12 B2
    by_cases hlt : k < 32
    · have hk1 : (0 : Int) ≤ k := by omega
      have hk2 : (k : Int) < 32 := by omega
      obtain ⟨cur, hcb, hcg, hcl, hct⟩ := K.out.blk
      have hpl : fi + k < 8 * N := by have := HN.out; omega
      have hbl : (burst sv bt fi k).length = N := by rw [burst_len, HL.out]
      obtain ⟨q, hq⟩ : ∃ q, (fi + k) / 8 = q := ⟨_, rfl⟩
      obtain ⟨r, hr⟩ : ∃ r, (fi + k) % 8 = r := ⟨_, rfl⟩
      obtain ⟨v, hv⟩ : ∃ v, (burst sv bt fi k).getD q 0 = v := ⟨_, rfl⟩
      have hvl : v < 256 := by
        rw [← hv, List.getD_eq_getElem?_getD, List.getElem?_eq_getElem (by omega : q < (burst sv bt fi k).length)]
        exact burst_by HSY.out bt fi k _ (List.getElem_mem _)
      obtain ⟨mk, hmk⟩ : ∃ mk, 128 / 2 ^ r = mk := ⟨_, rfl⟩
      have hmkl : mk < 256 := by rw [← hmk]; exact Nat.lt_of_le_of_lt (Nat.div_le_self _ _) (by decide)
      have hqN : q < N := by omega
      rw [hbl] at hcl hct
      have hcell : cur[q]? = some (.int .u8 (v : Int)) := by
        have := congrArg (fun l => l[q]?) hct
        simp only [List.getElem?_take, if_pos hqN, List.getElem?_map, Array.getElem?_toList] at this
        rw [this, ← hv, List.getD_eq_getElem?_getD, List.getElem?_eq_getElem (by omega : q < (burst sv bt fi k).length)]
        rfl
      have c1 : wr.cell? ⟨g, q, none⟩ = some (.int .u8 (v : Int)) := by rw [row_cell hcg q, hcell]
      have f1 := row_free hcg q
      obtain ⟨p, hp⟩ : ∃ p, fi + k = p := ⟨_, rfl⟩
      rw [hp] at hpl hq hr
      have e1 : IntKind.i64.wrap ((fi : Int) + (k : Int)) = (p : Int) := by rw [IntKind.wrap_i64]; omega
      have e1' : (fi : Int) + (k : Int) = (p : Int) := by omega
      have e2 : (p : Int) / 8 = (q : Int) := by omega
      have e2' : (p : Int).tdiv 8 = (q : Int) := by rw [Int.tdiv_eq_ediv_of_nonneg (by omega)]; omega
      have e3 : (p : Int) % 8 = (r : Int) := by omega
      have e3' : (p : Int).tmod 8 = (r : Int) := by rw [Int.tmod_eq_emod_of_nonneg (by omega)]; omega
      have e4 : (128 : Int) / 2 ^ r = (mk : Int) := by rw [← hmk]; simp
      have e5 := u8_xor_nat v mk hvl hmkl
      have z1 : (0 : Int) ≤ q := by omega
      have z2 : (q : Int) < N := by omega
      have z3 : (0 : Int) ≤ r := by omega
      have z4 : (r : Int) < 8 := by omega
      obtain ⟨t, ht⟩ : ∃ t, bt.testBit (31 - k) = t := ⟨_, rfl⟩
      have e6 : bits .and .u32 ((bt : Int) / 2 ^ (31 - k)) 1 = ((if t then 1 else 0 : Nat) : Int) := by
        have h := u32_and_nat (bt / 2 ^ (31 - k)) 1 (Nat.lt_of_le_of_lt (Nat.div_le_self _ _) hbt) (by decide)
        rw [Nat.and_one_is_mod] at h
        have ec : ((bt / 2 ^ (31 - k) : Nat) : Int) = (bt : Int) / 2 ^ (31 - k) := by simp
        rw [ec] at h
        rw [show (1 : Int) = ((1 : Nat) : Int) from rfl, h, ← ht, Nat.testBit_eq_decide_div_mod_eq]
        congr 1
        by_cases h2 : bt / 2 ^ (31 - k) % 2 = 1
        · simp [h2]
        · simp [h2]; omega
      have HT := hide ht
      have HP := hide hp
      have HQ := hide hq
      have HR := hide hr
      have HV := hide hv
      have HM := hide hmk
      have HCT := hide hct
      have HCG := hide hcg
      clear ht hp hq hr hv hmk hct hcell hbl hcl
      cases t with
      | true =>
        simp only [if_true] at e6
        have e6 : bits .and .u32 ((bt : Int) / 2 ^ (31 - k)) 1 = 1 := e6
        clear hcg
        go_wp2_with fail
        go_region
        go_wp2_with fail
        go_roundg (gk - 1)
        case measure => omega
        case rel =>
          refine ⟨k + 1, by omega, by go_num, ?_, ?_⟩
          · have h := row_set HCG.out q (.int .u8 ((v ^^^ mk : Nat) : Int))
            unfold burst
            rw [HT.out, if_pos rfl]
            have et : turn (burst sv bt fi k) (fi + k) = (burst sv bt fi k).set q (v ^^^ mk) := by
              unfold turn
              rw [HP.out, HQ.out, HR.out, HV.out, HM.out]
            rw [et]
            refine .inr ⟨g, _, rfl, hcb, h, ?_, ?_⟩
            · have := HCT.out
              have hl := congrArg List.length this
              simp only [List.length_take, List.length_map, burst_len, HL.out, Array.length_toList] at hl
              simp only [List.length_set, burst_len, HL.out, Array.size_setIfInBounds]
              omega
            · have hb : ((burst sv bt fi k).set q (v ^^^ mk)).length = N := by rw [List.length_set, burst_len, HL.out]
              rw [hb, Array.toList_setIfInBounds, List.take_set, HCT.out, List.map_set]
              rfl
          · exact Below.drew (F.out.setCell (by simpa using hcb) _)
      | false =>
        have e6 : bits .and .u32 ((bt : Int) / 2 ^ (31 - k)) 1 = 0 := e6
        clear hcg
        go_wp2_with fail
        go_roundg (gk - 1)
        case measure => omega
        case rel =>
          refine ⟨k + 1, by omega, by go_num, ?_, F⟩
          · unfold burst
            rw [HT.out]
            exact K
    · obtain rfl : k = 32 := by omega
      go_wp2_with fail
      have C2 := hide (check_any (some ⟨g, 0, none⟩) N N (burst sv bt fi 32) wr (by rw [burst_len, HL.out]) (by omega) (Nat.le_refl _) (by unfold maxLen; omega) (burst_by HSY.out bt fi 32) K.out.sl)
      rw [LW.out] at C2
      refine C2.out.mono ?_
      rintro e w4 ⟨⟨A4, rfl, r4⟩, b4⟩
      simp only [Bool.false_eq_true, if_false] at r4 ⊢
      have B4 := hide (F.out.trans (b4.mono F.out.size))
      clear b4 r4 C2
      go_wp2_with fail
      refine (slives_any _).mono ?_
      rintro e w5 ⟨rfl, b5⟩
      have B5 := hide (B4.out.trans (b5.mono B4.out.size))
      clear b5
      go_wp2_with fail
      go_ret
      exact ⟨rfl, B5.out⟩
theorem sburst_zero (A : Option Addr) (n c : Nat) (at_ : Int) (bs : List Nat) (w : World) (h1 : bs.length = n) (l1 : n ≤ 300) (hnc : n ≤ c) (hc : c ≤ maxLen) (b1 : By bs) (s1 : Sl w w.heap.size A (bs.map bv)) :
    Calls Try.prog 11 #[.slice A n c, .int .u32 0, .int .u16 at_] w fun e w' => e = .returned (.bool true) ∧ Below w.heap.size w w' := by
  have hd1 : decide ((300 : Int) < n) = false := decide_eq_false (by omega)
  have H1 := hide h1
  have S1 := hide s1
  have PT := hide (put_any (some ⟨w.heap.size, 0, none⟩) 1 1 [bs] (w.alloc (.cells #[.slice A n c] 63)) rfl (by omega) (parts_of [(A, c, bs)] (heap_alloc_new w _) (by simp [h1]) (by simp; exact ⟨(s1.alloc (Nat.le_refl _) _).more (by simp), b1, by omega⟩)) (by simp; omega))
  rw [show [bs].flatten = bs from by simp] at PT
  obtain ⟨N, hN⟩ : ∃ N, n + 4 = N := ⟨_, rfl⟩
  have hsl : (putV bs).length = N := by rw [putV_len, h1, hN]
  have hck := check_put bs
  have htk : (putV bs).take n = bs := by have := put_take bs; rwa [hsl, show N - 4 = n from by omega] at this
  have hsy : By (putV bs) := putV_by b1
  rw [hsl] at PT
  obtain ⟨sv, hsv⟩ : ∃ sv, putV bs = sv := ⟨_, rfl⟩
  rw [hsv] at PT hsl hck htk hsy
  have HL := hide hsl
  have HCK := hide hck
  have HTK := hide htk
  have HSY := hide hsy
  have HN := hide hN
  have hN' : (n : Int) + 4 = (N : Int) := by omega
  have hNl : N ≤ 304 := by omega
  clear h1 b1 s1 hsl hck htk hsy hsv hc hN
  go_enter Try.func11, Try.ntmps11
  go_wp2_with fail
  refine PT.out.mono ?_
  rintro e w1 ⟨⟨A1, rfl, r1⟩, bb1⟩
  have R1 := hide (show ByRow w1 (w.heap.size + 1) A1 sv from by rw [alloc_size] at r1; exact r1)
  have B1 := hide (((Below.refl w.heap.size w).alloc (Nat.le_refl _) (.cells #[.slice A n c] 63)).trans (bb1.mono (by simp)))
  clear bb1 r1 PT
  go_wp2_with fail
  have CK := hide (check_any A1 N N sv w1 HL.out (by omega) (Nat.le_refl _) (by unfold maxLen; omega) HSY.out R1.out.sl)
  rw [HCK.out] at CK
  refine CK.out.mono ?_
  rintro e w2 ⟨⟨A2, rfl, r2⟩, bb2⟩
  simp only [if_true] at r2 ⊢
  rw [show N - 4 = n from by have := HN.out; omega] at r2 ⊢
  rw [HTK.out] at r2
  have R2 := hide r2
  have B2 := hide (B1.out.trans (bb2.mono B1.out.size))
  clear bb2 r2 CK R1 B1
  go_wp2_with fail
  refine (same_eq A2 A n n n c _ _ bs w2 H1.out H1.out R2.out.sl ((S1.out.below B2.out).more B2.out.size)).mono ?_
  rintro e w' ⟨rfl, rfl⟩
  go_wp2_with fail
  refine (slives_any _).mono ?_
  rintro e w5 ⟨rfl, b5⟩
  have B5 := hide (B2.out.trans (b5.mono B2.out.size))
  clear b5
  go_wp2_with fail
  go_ret
  exact ⟨rfl, B5.out⟩
theorem sburst_long (A : Option Addr) (n c : Nat) (bt at_ : Int) (w : World) (hs : 300 < n) (hm : n ≤ maxLen) :
    Calls Try.prog 11 #[.slice A n c, .int .u32 bt, .int .u16 at_] w fun e w' => e = .returned (.bool true) ∧ Below w.heap.size w w' := by
  unfold maxLen at hm
  have h1 : (300 : Int) < n := by omega
  have LI := hide (fun W => slives_any W)
  go_enter Try.func11, Try.ntmps11
  go_wp2_with fail
  refine (LI.out _).mono ?_
  rintro e w' ⟨rfl, hb⟩
  have HB := hide hb
  clear hb
  go_wp2_with fail
  go_ret
  exact ⟨rfl, HB.out⟩
end Go.Proofs.Ytlbnikmaafccnaa
