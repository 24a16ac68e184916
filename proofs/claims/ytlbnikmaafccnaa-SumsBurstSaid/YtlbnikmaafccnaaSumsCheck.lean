/- SameBytes of one list twice; the library's slices.Clone and Equal on bytes; the program's Check. -/
import Derived.Test.YtlbnikmaafccnaaSumsPut
import Derived.WalkSpells
import Derived.Laws.BytesArg
import Derived.BigQuiet
import Derived.Deep.QuietTactic
namespace Go.Proofs.Ytlbnikmaafccnaa
open Go.RowKit Sm
set_option linter.unusedVariables false
theorem run_convert_sl {P : Program} {w : World} {B n c : Nat} {A : Option Addr} {bs : List Nat} (src e dst : TypeId) (hs : P.underlying src = some (.slice e)) (he : P.underlying e = some (.int .u8)) (hd : P.underlying dst = some .string) (hn : bs.length = n) (h : Sl w B A (bs.map bv)) :
    (convert src dst (.slice A n c)).run P w = .ok (.string (strOfNums (bs.map fun b : Nat => (b : Int)))) w := by
  rcases A with _ | ad
  · have hb : bs = [] := by
      cases bs with
      | nil => rfl
      | cons b r => obtain ⟨ad, e, _⟩ := h 0 (bv b) rfl; cases e
    subst hb
    exact run_convert_bytes_nil w src e hs he n c dst hd
  · have hl : (loadCells ad n).run P w = .ok ((bs.map fun b : Nat => (b : Int)).map (Value.int .u8)).toArray w := by
      have := run_loadCells_list (P := P) w ad ((bs.map fun b : Nat => (b : Int)).map (Value.int .u8)) (fun j v hj => by
        obtain ⟨ad', e, _, hc⟩ := h j v (by rw [List.map_map] at hj; exact hj)
        cases e
        exact hc)
      simpa [hn] using this
    rw [run_convert_bytes_string w src dst e _ n c hs he hd, run_bytesToString w _ n c _ hl, foldl_push_bytes]
    simp [strOfNums, ByteArray.empty, ByteArray.emptyWithCapacity]
    rfl
theorem same_eq (A A' : Option Addr) (n n' c c' B B' : Nat) (bs : List Nat) (w : World) (hn : bs.length = n) (hn' : bs.length = n') (h : Sl w B A (bs.map bv)) (h' : Sl w B' A' (bs.map bv)) :
    Calls Try.prog 35 #[.slice A n c, .slice A' n' c'] w fun e w' => e = .returned (.bool true) ∧ w = w' := by
  have k1 := run_convert_sl (P := Try.prog) (c := c) 63 5 9 Try.underlying63 Try.underlying5 Try.underlying9 hn h
  have k2 := run_convert_sl (P := Try.prog) (c := c') 63 5 9 Try.underlying63 Try.underlying5 Try.underlying9 hn' h'
  obtain ⟨s, hs⟩ : ∃ s, strOfNums (bs.map fun b : Nat => (b : Int)) = s := ⟨_, rfl⟩
  rw [hs] at k1 k2
  clear hs hn hn' h h'
  go_enter Try.func35, Try.ntmps35
  go_wp2
  go_ret
  exact ⟨rfl, rfl⟩
set_option maxHeartbeats 1000000 in
theorem equal_any (A A' : Option Addr) (n n' c c' B B' : Nat) (xs ys : List Nat) (w : World) (hn : xs.length = n) (hn' : ys.length = n') (hm : n ≤ 1000000) (hm' : n' ≤ 1000000) (h : Sl w B A (xs.map bv)) (h' : Sl w B' A' (ys.map bv)) :
    Calls Try.prog 51 #[.slice A n c, .slice A' n' c'] w fun e w' => e = .returned (.bool (decide (xs = ys))) ∧ ∃ q, w' = w.drewN q := by
  have H1 := hide h
  have H2 := hide h'
  have L1 := hide hn
  have L2 := hide hn'
  by_cases hl : n = n'
  · subst hl
    clear hn hn' h h'
    go_enter Try.func51, Try.ntmps51
    go_wp2_with fail
    go_loopg [13] n (fun gk i wr => ∃ k q : Nat, gk + k = n ∧ i = .int .i64 k ∧ Hid (xs.take k = ys.take k) ∧ wr = w.drewN q)
    case atStart => exact ⟨0, 0, rfl, rfl, by simp [Hid], rfl⟩
    case round =>
      obtain ⟨k, q, hgk, rfl, E, rfl⟩ := hrel
      by_cases hlt : k < n
      · have hk1 : k < xs.length := by have := L1.out; omega
        have hk2 : k < ys.length := by have := L2.out; omega
        obtain ⟨ad, rfl, _, hc⟩ := H1.out.at_ (k := k) (by simpa using hk1)
        obtain ⟨ad', rfl, _, hc'⟩ := H2.out.at_ (k := k) (by simpa using hk2)
        rw [bv_at hk1] at hc
        rw [bv_at hk2] at hc'
        have hz : (0 : Int) ≤ k := by omega
        have hz' : (k : Int) < n := by omega
        by_cases he : xs[k] = ys[k]
        · have HE := hide (show xs.take (k + 1) = ys.take (k + 1) from by rw [List.take_succ_eq_append_getElem hk1, List.take_succ_eq_append_getElem hk2, E.out, he])
          obtain ⟨x, hx⟩ : ∃ x, xs[k] = x := ⟨_, rfl⟩
          rw [← he, hx] at hc'
          rw [hx] at hc
          clear he hx hk1 hk2
          go_wp2_with fail
          go_quiet (fail)
          go_wp2_with fail
          go_roundg (gk - 1)
          case measure => omega
          case rel => exact ⟨k + 1, _, by omega, by go_num, HE, rfl⟩
        · have HE := hide (show decide (xs = ys) = false from decide_eq_false (fun e => by subst e; exact he rfl))
          have hne : (((xs[k] : Nat) : Int) != ((ys[k] : Nat) : Int)) = true := by rw [bne_iff_ne]; exact fun e => he (by exact_mod_cast e)
          obtain ⟨x, hx⟩ : ∃ x, xs[k] = x := ⟨_, rfl⟩
          obtain ⟨y, hy⟩ : ∃ y, ys[k] = y := ⟨_, rfl⟩
          rw [hx] at hc hne
          rw [hy] at hc' hne
          clear he hx hy hk1 hk2
          go_wp2_with fail
          go_quiet (fail)
          go_wp2_with fail
          go_ret
          exact ⟨ret_bool HE.out.symm, _, World.drewN_drewN _ _ _⟩
      · have HE := hide (show decide (xs = ys) = true from decide_eq_true (by
          have := E.out
          rwa [List.take_of_length_le (by rw [L1.out]; omega), List.take_of_length_le (by rw [L2.out]; omega)] at this))
        go_wp2_with fail
        go_ret
        exact ⟨ret_bool HE.out.symm, q, rfl⟩
  · have HE := hide (show decide (xs = ys) = false from decide_eq_false (fun e => by subst e; omega))
    have hd : ((n : Int) != (n' : Int)) = true := by rw [bne_iff_ne]; exact fun e => hl (by exact_mod_cast e)
    clear hn hn' h h' hl
    go_enter Try.func51, Try.ntmps51
    go_wp2_with fail
    go_ret
    exact ⟨ret_bool HE.out.symm, 0, rfl⟩
set_option maxRecDepth 100000 in
set_option maxHeartbeats 1000000 in
theorem clone_any (A : Option Addr) (m c : Nat) (bs : List Nat) (w : World) (hm : bs.length = m) (hs : m ≤ 1000000) (hc : c ≤ maxLen) (hx : Sl w w.heap.size A (bs.map bv)) :
    Calls Try.prog 50 #[.slice A m c] w fun e w' => (∃ A' c', e = .returned (.slice A' m c') ∧ m ≤ c' ∧ c' ≤ maxLen ∧ ByRow w' w.heap.size A' bs) ∧ Below w.heap.size w w' := by
  obtain ⟨i0, hi, hz0, hz1, hz2⟩ := info_parts info5
  have HM := hide hm
  have HX := hide hx
  have keq := fun (w : World) => Lib.run_eql_slice_nil (P := Try.prog) w 63 5 A m c 0 0 Try.underlying63
  unfold maxLen at hc
  rcases A with _ | ad
  · have hb : bs = [] := by
      cases bs with
      | nil => rfl
      | cons b r => obtain ⟨ad, e, _⟩ := hx 0 (bv b) rfl; cases e
    subst hb
    simp at hm
    subst hm
    clear hx
    go_enter Try.func50, Try.ntmps50
    go_wp2_with fail
    go_ret
    exact ⟨⟨none, 0, rfl, by omega, by omega, .inl ⟨rfl, rfl⟩⟩, Below.refl _ _⟩
  · have HE := hide (show (w.alloc (.cells #[] 5)).ownsRow w.heap.size 5 1 (.slice (some ⟨w.heap.size, 0, none⟩) 0 0) 0 [] from ⟨rfl, .inr ⟨w.heap.size, 0, #[], rfl, Nat.le_refl _, heap_alloc_new w _, Nat.le_refl _, Nat.zero_le _, rfl, rfl⟩⟩)
    clear hm hx
    go_enter Try.func50, Try.ntmps50
    go_wp2_with (at_builtin; refine wpList_append_sl _ rfl _ _ 63 rfl w.heap.size 5 i0 (.int .u8 0) 1 1 Try.underlying63 hi hz0 hz1 hz2 rfl (by decide) (.slice (some ⟨w.heap.size, 0, none⟩) 0 0) 0 [] rfl HE.out _ (some ad) m c (bs.map bv) rfl (by rw [List.length_map, HM.out, Nat.mul_one]) (HX.out.alloc (Nat.le_refl _) _) (one_bv _) (by unfold maxLen; omega) (by omega) (by simp) ?_; intro v1 w1 hown1 hg1 hat1; have hown2 : w1.ownsRow w.heap.size 5 1 v1 m (bs.map bv) := (by simpa using hown1); obtain ⟨A3, c3, hv3, k1, k2, k3⟩ := own_by hown2 HM.out; have K2 := hide k2; have K3 := hide k3; have HB := hide (((Below.refl w.heap.size w).alloc (Nat.le_refl _) (.cells #[] 5)).grown hg1 (by simp) (by simp [Value.ownBlock])); clear hown1 hown2 hg1 hat1 k2 k3; rw [hv3])
    go_ret
    exact ⟨⟨A3, c3, rfl, k1, K2.out, K3.out⟩, HB.out⟩
/-- Is b the sum's way of its first bytes? -/
def checkB (bs : List Nat) : Bool := decide (4 ≤ bs.length) && decide (putV (bs.take (bs.length - 4)) = bs)
set_option maxRecDepth 100000 in
set_option maxHeartbeats 2000000 in
theorem check_any (A : Option Addr) (n c : Nat) (bs : List Nat) (w : World) (hn : bs.length = n) (hs : n ≤ 10000) (hnc : n ≤ c) (hc : c ≤ maxLen) (hb : By bs) (hx : Sl w w.heap.size A (bs.map bv)) :
    Calls Try.prog 40 #[.slice A n c] w fun e w' => (∃ A', e = .returned (.tuple #[.slice A' (if checkB bs then n - 4 else 0) (if checkB bs then n - 4 else 0), .bool (checkB bs)]) ∧ ByRow w' w.heap.size A' (if checkB bs then bs.take (n - 4) else [])) ∧ Below w.heap.size w w' := by
  have hc2 := hc
  unfold maxLen at hc2
  by_cases h4 : n < 4
  · have E : checkB bs = false := by unfold checkB; rw [hn, decide_eq_false (by omega)]; rfl
    rw [E]
    clear hx hb E
    go_enter Try.func40, Try.ntmps40
    go_wp2_with fail
    go_ret2
    exact ⟨⟨none, rfl, .inl ⟨rfl, rfl⟩⟩, Below.refl _ _⟩
  · have hd4 : decide ((n : Int) < 4) = false := decide_eq_false (by omega)
    obtain ⟨m, hm⟩ : ∃ m, n - 4 = m := ⟨_, rfl⟩
    have hnm : (n : Int) - 4 = m := by omega
    have E : checkB bs = decide (putV (bs.take m) = bs) := by unfold checkB; rw [hn, hm, decide_eq_true (by omega)]; rfl
    rw [E, hm]
    have hl : (bs.take m).length = m := by rw [List.length_take]; omega
    have CL := hide (clone_any A m c (bs.take m) w hl (by omega) hc (by rw [List.map_take]; exact hx.pre m))
    have HX := hide hx
    have HBy := hide (by_take hb m)
    have HN := hide hn
    have HL := hide hl
    have hmc : m ≤ c := by omega
    obtain ⟨k, hk⟩ : ∃ k, decide (putV (bs.take m) = bs) = k := ⟨_, rfl⟩
    rw [hk]
    have HK := hide hk
    clear hx hb hn E hl hk
    go_enter Try.func40, Try.ntmps40
    go_wp2_with fail
    refine CL.out.mono ?_
    rintro e w1 ⟨⟨A1, c1, rfl, q1, q2, hr⟩, hb1⟩
    have HR := hide hr
    have HB := hide hb1
    have Q2 := hide q2
    have hz1 := hb1.size
    clear hr hb1 q2 CL
    go_wp2_with fail
    refine (clip_b A1 m c1 _ q1 Q2.out).mono ?_
    rintro e w2 ⟨rfl, rfl⟩
    go_wp2_with fail
    have PP := hide (show Parts (w1.alloc (.cells #[.slice A1 m m] 63)) (some ⟨w1.heap.size, 0, none⟩) [bs.take m] from
      parts_one HL.out (by unfold maxLen; omega) (cell_new w1 #[.slice A1 m m] 63 (0, 0) 0) ((HR.out.sl.alloc (Nat.le_refl _) _).more (by simp)) HBy.out)
    have PT := hide (put_any (some ⟨w1.heap.size, 0, none⟩) 1 1 [bs.take m] _ rfl (by omega) PP.out (by simp [HL.out]; omega))
    rw [show [bs.take m].flatten = bs.take m from by simp] at PT
    refine PT.out.mono ?_
    rintro e w3 ⟨⟨A3, rfl, hr3⟩, hb3⟩
    have B13 := hide ((Below.alloc (Below.refl w1.heap.size w1) (Nat.le_refl _) (.cells #[.slice A1 m m] 63)).trans (hb3.mono (by simp)))
    have R3 := hide hr3
    have HR3 := hide (HR.out.far (far_of_below B13.out) (fun _ _ h => h))
    have HB3 := hide (HB.out.trans (B13.out.mono hz1))
    have HX3 := hide (HX.out.below HB3.out)
    have hlp : (putV (bs.take m)).length ≤ 1000000 := by
      unfold putV sumB
      rw [List.length_append, HL.out]
      simp
      omega
    clear hb3 hr3 PT PP B13 HB HR
    go_wp2_with fail
    have EQ := hide (equal_any A3 A _ n (putV (bs.take m)).length c _ _ (putV (bs.take m)) bs w3 rfl HN.out hlp (by omega) R3.out.sl HX3.out)
    rw [HK.out] at EQ
    refine EQ.out.mono ?_
    rintro e w4 ⟨rfl, q, rfl⟩
    cases k with
    | true =>
      go_wp2_with fail
      go_ret2
      exact ⟨⟨A1, rfl, HR3.out⟩, below_drewN HB3.out q⟩
    | false =>
      go_wp2_with fail
      go_ret2
      exact ⟨⟨none, rfl, .inl ⟨rfl, rfl⟩⟩, below_drewN HB3.out q⟩
end Go.Proofs.Ytlbnikmaafccnaa
