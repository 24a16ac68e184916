/- The contract of rings.Path: the nodes of the track path, in memory of the call's own. -/
import Derived.Test.YtbniijmabebhoaaDoorRings
import Derived.Test.YtbniijmabebhoaaDoorReverse
import Derived.WalkMore
namespace Go.Proofs.YtbniijmabebhoaaDoor
open Go.RowKit
set_option linter.unusedVariables false
namespace Rg
/-- The nodes that the loop goes over, from the path's end back. -/
def pl (n d : Int) : Nat → Int → Int → Int → List Int
  | 0, _, _, _ => []
  | f + 1, at_, hop, left => if left - min hop left = 0 then [] else step n d at_ (-hop) :: if left - min hop left = 1 then [] else pl n d f (step n d at_ (-hop)) 2 (left - min hop left)
def pathB (n d a b h : Int) : Bool := decide (1 ≤ dist n d a b) && hopB h && decide (h ≤ dist n d a b)
def pathL (n d a b h : Int) : List Int := (pl n d 20 b h (dist n d a b)).reverse
end Rg
/-- A slice of numbers in memory from base on. -/
def IntRow (w : World) (base : Nat) (A : Option Addr) (xs : List Int) : Prop :=
  (A = none ∧ xs = []) ∨ ∃ g cur, A = some ⟨g, 0, none⟩ ∧ base ≤ g ∧ w.heap[g]? = some (.cells cur 3 (0, 0)) ∧ xs.length ≤ cur.size ∧ cur.toList.take xs.length = xs.map (.int .i64)
theorem path_none (n d a b h : Int) (w : World) (hd : 0 ≤ d) (g : Signs w) (hp : Rg.pathB n d a b h = false) :
    Calls Tryd.prog 39 #[.int .i64 n, .int .u8 d, .int .i64 a, .int .i64 b, .int .i64 h] w fun e w' => e = .returned (.tuple #[.slice none 0 0, .bool false]) ∧ w = w' := by
  have D := hide (dist_any n d a b w hd g)
  have H := hide (hops_any h w)
  generalize hx : Rg.dist n d a b = x at *
  have hp' := hp
  unfold Rg.pathB at hp'
  rw [hx] at hp'
  clear hx hp
  have HQ := hide hp'
  clear hp'
  rcases (show x ≤ 0 ∨ 1 ≤ x from by omega) with h1 | h1
  · go_enter Tryd.func39, Tryd.ntmps39
    go_wp2_with fail
    go_step3
    go_wp2_with fail
    refine D.out.mono ?_
    rintro e w' ⟨rfl, rfl⟩
    go_wp2_with fail
    rw [Exit.noGoto_ret]
    go_ret2
    exact ⟨rfl, rfl⟩
  · cases q : Rg.hopB h with
    | false =>
      go_enter Tryd.func39, Tryd.ntmps39
      go_wp2_with fail
      go_step3
      go_wp2_with fail
      refine D.out.mono ?_
      rintro e w' ⟨rfl, rfl⟩
      go_wp2_with fail
      refine H.out.mono ?_
      rintro e w' ⟨rfl, rfl⟩
      rw [q]
      go_wp2_with fail
      rw [Exit.noGoto_ret]
      go_ret2
      exact ⟨rfl, rfl⟩
    | true =>
      have h3 : x < h := by have hp' := HQ.out; rw [q] at hp'; simp [h1] at hp'; omega
      go_enter Tryd.func39, Tryd.ntmps39
      go_wp2_with fail
      go_step3
      go_wp2_with fail
      refine D.out.mono ?_
      rintro e w' ⟨rfl, rfl⟩
      go_wp2_with fail
      refine H.out.mono ?_
      rintro e w' ⟨rfl, rfl⟩
      rw [q]
      go_wp2_with fail
      rw [Exit.noGoto_ret]
      go_ret2
      exact ⟨rfl, rfl⟩
theorem Signs.below {w w' : World} {B : Nat} (h : Signs w) (hb : Below B w w') (hB : 0 < B) : Signs w' :=
  ⟨(hb.cell (p := ⟨0, 0, none⟩) hB).trans h.1, (hb.cell (p := ⟨0, 1, none⟩) hB).trans h.2⟩
theorem dist_bd (n d a b : Int) : Rg.dist n d a b ≤ 15 := by
  unfold Rg.dist
  split
  · rename_i h
    simp only [Bool.and_eq_true] at h
    obtain ⟨h1, h2, _⟩ := ring_out h.1.1
    have := Int.emod_lt_of_pos (Rg.sg d * (b - a)) (show (0 : Int) < n by omega)
    omega
  · omega
theorem pl_end {n d : Int} {f : Nat} {at_ hop left : Int} (h : left - min hop left = 0) : Rg.pl n d (f + 1) at_ hop left = [] := by rw [Rg.pl, if_pos h]
theorem pl_last {n d : Int} {f : Nat} {at_ hop left : Int} (h : left - min hop left = 1) : Rg.pl n d (f + 1) at_ hop left = [Rg.step n d at_ (-hop)] := by rw [Rg.pl, if_neg (by omega), if_pos h]
theorem pl_more {n d : Int} {f : Nat} {at_ hop left : Int} (h : 2 ≤ left - min hop left) : Rg.pl n d (f + 1) at_ hop left = Rg.step n d at_ (-hop) :: Rg.pl n d f (Rg.step n d at_ (-hop)) 2 (left - min hop left) := by rw [Rg.pl, if_neg (by omega), if_neg (by omega)]
theorem own_more {w : World} {base : Nat} {v : Value} {acc : List Int} {x : Int} (h : w.ownsRow base 3 1 v (acc.length + 1) (acc.map (.int .i64) ++ [.int .i64 x])) : w.ownsRow base 3 1 v (acc ++ [x]).length ((acc ++ [x]).map (.int .i64)) := by
  simpa using h
theorem own_open {w : World} {base : Nat} {v : Value} {acc : List Int} (h : w.ownsRow base 3 1 v acc.length (acc.map (.int .i64))) (hne : acc ≠ []) :
    ∃ g cap cur m, acc.length = m ∧ v = .slice (some ⟨g, 0, none⟩) m cap ∧ base ≤ g ∧ w.heap[g]? = some (.cells cur 3 (0, 0)) ∧ m ≤ cap ∧ cap ≤ maxLen ∧ cur.size = cap ∧ cur.toList.take acc.length = acc.map (.int .i64) := by
  rcases h.2 with ⟨_, h0⟩ | ⟨g, cap, cur, rfl, hb, hg, hc, hm, h5, ht⟩
  · exact absurd (List.eq_nil_of_length_eq_zero h0) hne
  · exact ⟨g, cap, cur, _, rfl, rfl, hb, hg, hc, hm, by simpa using h5, by simpa using ht⟩
theorem ownsBlock_ge {w : World} {base : Nat} {e : TypeId} {size n : Nat} {v : Value} {xs : List Value} (h : w.ownsRow base e size v n xs) : ∀ k, v.ownBlock = some k → base ≤ k := by
  intro k hk
  rcases h.2 with ⟨rfl, _⟩ | ⟨g, cap, cur, rfl, hb, _⟩
  · simp [Value.ownBlock] at hk
  · simp [Value.ownBlock] at hk
    omega
theorem info3 : (Tryd.prog.info? 3).map (fun i => (i.zero, i.size, i.bytes)) = some (some (.int .i64 0), 1, 8) := by kernel_rfl
set_option maxRecDepth 100000 in
set_option maxHeartbeats 2000000 in
theorem path_some (n d a b h : Int) (w : World) (hd : 0 ≤ d) (g : Signs w) (g0 : 0 < w.heap.size) (hp : Rg.pathB n d a b h = true) :
    Calls Tryd.prog 39 #[.int .i64 n, .int .u8 d, .int .i64 a, .int .i64 b, .int .i64 h] w fun e w' => (∃ A, e = .returned (.tuple #[.slice A (Rg.pathL n d a b h).length (Rg.pathL n d a b h).length, .bool true]) ∧ IntRow w' w.heap.size A (Rg.pathL n d a b h)) ∧ Below w.heap.size w w' := by
  obtain ⟨i0, hi, hz0, hz1, hz2⟩ := info_parts info3
  have D := hide (dist_any n d a b w hd g)
  have H := hide (hops_any h w)
  have GS := hide g
  have hpl : Rg.pathL n d a b h = (Rg.pl n d 20 b h (Rg.dist n d a b)).reverse := rfl
  have hdb : Rg.dist n d a b ≤ 15 := dist_bd n d a b
  generalize Rg.pathL n d a b h = L at *
  unfold Rg.pathB at hp
  generalize Rg.dist n d a b = x at *
  have HP := hide hpl
  clear hpl g
  have q : Rg.hopB h = true := by simp at hp; exact hp.1.2
  have h1 : 1 ≤ x := by simp at hp; exact hp.1.1
  have h3 : h ≤ x := by simp at hp; exact hp.2
  have h4 : 1 ≤ h ∧ h ≤ 2 := by simp [Rg.hopB] at q; omega
  clear hp
  go_enter Tryd.func39, Tryd.ntmps39
  go_wp2_with fail
  go_step3
  go_wp2_with fail
  refine D.out.mono ?_
  rintro e w' ⟨rfl, rfl⟩
  go_wp2_with fail
  refine H.out.mono ?_
  rintro e w' ⟨rfl, rfl⟩
  rw [q]
  go_wp2_with fail
  go_step3
  generalize hP : Rg.pl n d 20 b h x = P at *
  have HPL := hide hP
  clear hP
  go_wp2_with fail
  go_loopw [4, 12, 13, 14] (fun ho le v at_ wr => ∃ (f : Nat) (acc : List Int) (hop left p : Int), ho = .int .i64 hop ∧ le = .int .i64 left ∧ at_ = .int .i64 p ∧ 1 ≤ hop ∧ hop ≤ 2 ∧ hop ≤ left ∧ left ≤ 15 ∧ left < f ∧ acc.length + f = 20 ∧
      Hid (acc ++ Rg.pl n d f p hop left = P) ∧ Hid (wr.ownsRow w.heap.size 3 1 v acc.length (acc.map (.int .i64))) ∧ Hid (acc = [] → v = .slice none 0 0) ∧ Hid (Below w.heap.size w wr)) (fun _ le _ _ _ => (intOf le).toNat)
  case atStart => exact ⟨20, [], h, x, b, rfl, rfl, rfl, h4.1, h4.2, h3, hdb, by omega, rfl, HPL.out, World.ownsRow_nil _ _ _ _, fun _ => rfl, Below.refl _ _⟩
  case round =>
    obtain ⟨f, acc, hop, left, p, rfl, rfl, rfl, k1, k2, k3, k4, k5, k6, KP, KO, KN, KB⟩ := hrel
    obtain ⟨f, rfl⟩ : ∃ m, f = m + 1 := ⟨f - 1, by omega⟩
    have hmin : min hop left = hop := by omega
    have HM := hide hmin
    clear hmin
    rcases (show left - hop = 0 ∨ left - hop = 1 ∨ 2 ≤ left - hop from by omega) with hc | hc | hc
    · have t1 : (left - hop == 0) = true := by simpa using hc
      have e1 := hide (pl_end (n := n) (d := d) (f := f) (at_ := p) (hop := hop) (left := left) (by rw [HM.out]; exact hc))
      clear hc
      go_wp2_with fail
      have hPa : acc = P := by have := KP.out; rw [e1.out, List.append_nil] at this; exact this
      have HPA := hide hPa
      clear hPa
      by_cases hne : acc = []
      · have hv := KN.out hne
        have HPe := hide (show ([] : List Int) = L from by rw [HP.out, ← HPA.out, hne]; rfl)
        rw [hv]
        clear hv hne
        refine (reverse_nil _).mono ?_
        rintro e w5 ⟨rfl, rfl⟩
        go_wp2_with fail
        refine (clip_ints _ 0 0 _ (by omega) (by unfold maxLen; omega)).mono ?_
        rintro e w6 ⟨rfl, rfl⟩
        go_wp2_with fail
        rw [Exit.noGoto_ret]
        go_ret2
        exact ⟨⟨none, by rw [← HPe.out]; rfl, .inl ⟨rfl, HPe.out.symm⟩⟩, KB.out⟩
      · have HN := hide hne
        clear HN
        obtain ⟨g1, cap, cur, m, hm, hv, hbg, hgg, hcc, hcm, hcs, hct⟩ := own_open KO.out hne
        rw [hv]
        have HPe := hide (show (acc).reverse = L from by rw [HP.out, ← HPA.out])
        have HR := hide (rev_start (xs := acc) hgg (by rw [hm]; omega) hct)
        have hlt := lt_of_blk hgg
        have hla : m ≤ 20 := by rw [← hm]; omega
        have HMM := hide hm
        clear hgg hct hcs hv hne hm
        refine (reverse_any g1 cap (acc) m HMM.out (by omega) _ HR.out).mono ?_
        rintro e w5 ⟨rfl, ⟨kk, RR, hkk⟩, FF⟩
        have RR := hide (rev_end RR (by rw [HMM.out]; exact hkk))
        have BB := hide (Far.below KB.out FF KB.out.size (by rintro k rfl; exact hbg))
        clear FF hkk
        go_wp2_with fail
        refine (clip_ints _ _ cap _ hcc hcm).mono ?_
        rintro e w6 ⟨rfl, rfl⟩
        go_wp2_with fail
        rw [Exit.noGoto_ret]
        go_ret2
        obtain ⟨cur2, r1, r2, r3⟩ := RR.out
        have hll : L.length = m := by rw [← HPe.out, List.length_reverse]; exact HMM.out
        refine ⟨⟨some ⟨g1, 0, none⟩, by rw [hll]; rfl, .inr ⟨g1, cur2, rfl, hbg, r1, by rw [hll, ← HMM.out]; exact r2, by rw [hll, ← HMM.out, r3, HPe.out]⟩⟩, BB.out⟩
    · have t0 : (left - hop == 0) = false := by simp; omega
      have t1 : (left - hop == 1) = true := by simpa using hc
      have e1 := hide (pl_last (n := n) (d := d) (f := f) (at_ := p) (hop := hop) (left := left) (by rw [HM.out]; exact hc))
      have ST := hide (step_any n d p (-hop) wr hd (GS.out.below KB.out g0))
      generalize Rg.step n d p (-hop) = q1 at *
      have hPa : acc ++ [q1] = P := by have := KP.out; rw [e1.out] at this; exact this
      have HPA := hide hPa
      clear hPa hc
      go_wp2_with fail
      refine ST.out.mono ?_
      rintro e w4 ⟨rfl, n1, rfl⟩
      go_wp2_with (at_builtin; refine wpList_append_sl _ rfl _ _ 62 rfl w.heap.size 3 i0 (.int .i64 0) 1 8 Tryd.underlying62 hi hz0 hz1 hz2 rfl (by decide) _ acc.length (acc.map (.int .i64)) rfl ((show (wr.drewN n1).ownsRow w.heap.size 3 1 _ acc.length (acc.map (.int .i64)) from KO.out).alloc _) _ _ 1 1 [.int .i64 q1] rfl rfl (Sl.one (cell_new' _ #[.int .i64 q1] 3 (0, 0) 0 _ (by simp))) (by simp [Value.oneCell']) (by unfold maxLen; omega) (by omega) (by have := KB.out.size; simp; omega) ?_; intro v1 w5 hown1 hg1 hat1)
      have KO2 := hide (own_more hown1)
      have hne : acc ++ [q1] ≠ [] := by simp
      have KB2 := hide (((below_drewN KB.out n1).alloc KB.out.size (.cells #[.int .i64 q1] 3)).grown hg1 (by have := KB.out.size; simp; omega) (ownsBlock_ge KO.out))
      clear hown1 hg1 hat1
      obtain ⟨g1, cap, cur, m, hm, hv, hbg, hgg, hcc, hcm, hcs, hct⟩ := own_open KO2.out hne
      rw [hv]
      have HPe := hide (show (acc ++ [q1]).reverse = L from by rw [HP.out, ← HPA.out])
      have HR := hide (rev_start (xs := acc ++ [q1]) hgg (by rw [hm]; omega) hct)
      have hlt := lt_of_blk hgg
      have hla : m ≤ 20 := by rw [← hm]; simp; omega
      have HMM := hide hm
      clear hgg hct hcs hv hne hm
      refine (reverse_any g1 cap (acc ++ [q1]) m HMM.out (by omega) _ HR.out).mono ?_
      rintro e w5 ⟨rfl, ⟨kk, RR, hkk⟩, FF⟩
      have RR := hide (rev_end RR (by rw [HMM.out]; exact hkk))
      have BB := hide (Far.below KB2.out FF KB2.out.size (by rintro k rfl; exact hbg))
      clear FF hkk
      go_wp2_with fail
      refine (clip_ints _ _ cap _ hcc hcm).mono ?_
      rintro e w6 ⟨rfl, rfl⟩
      go_wp2_with fail
      rw [Exit.noGoto_ret]
      go_ret2
      obtain ⟨cur2, r1, r2, r3⟩ := RR.out
      have hll : L.length = m := by rw [← HPe.out, List.length_reverse]; exact HMM.out
      refine ⟨⟨some ⟨g1, 0, none⟩, by rw [hll]; rfl, .inr ⟨g1, cur2, rfl, hbg, r1, by rw [hll, ← HMM.out]; exact r2, by rw [hll, ← HMM.out, r3, HPe.out]⟩⟩, BB.out⟩
    · have t0 : (left - hop == 0) = false := by simp; omega
      have t1 : (left - hop == 1) = false := by simp; omega
      have e1 := hide (pl_more (n := n) (d := d) (f := f) (at_ := p) (hop := hop) (left := left) (by rw [HM.out]; exact hc))
      have ST := hide (step_any n d p (-hop) wr hd (GS.out.below KB.out g0))
      generalize Rg.step n d p (-hop) = q1 at *
      have hPa : acc ++ [q1] ++ Rg.pl n d f q1 2 (left - hop) = P := by
        have := KP.out
        rw [e1.out, HM.out] at this
        simpa using this
      have HPA := hide hPa
      clear hPa
      go_wp2_with fail
      refine ST.out.mono ?_
      rintro e w4 ⟨rfl, n1, rfl⟩
      go_wp2_with (at_builtin; refine wpList_append_sl _ rfl _ _ 62 rfl w.heap.size 3 i0 (.int .i64 0) 1 8 Tryd.underlying62 hi hz0 hz1 hz2 rfl (by decide) _ acc.length (acc.map (.int .i64)) rfl ((show (wr.drewN n1).ownsRow w.heap.size 3 1 _ acc.length (acc.map (.int .i64)) from KO.out).alloc _) _ _ 1 1 [.int .i64 q1] rfl rfl (Sl.one (cell_new' _ #[.int .i64 q1] 3 (0, 0) 0 _ (by simp))) (by simp [Value.oneCell']) (by unfold maxLen; omega) (by omega) (by have := KB.out.size; simp; omega) ?_; intro v1 w5 hown1 hg1 hat1)
      have KO2 := hide (own_more hown1)
      have KB2 := hide (((below_drewN KB.out n1).alloc KB.out.size (.cells #[.int .i64 q1] 3)).grown hg1 (by have := KB.out.size; simp; omega) (ownsBlock_ge KO.out))
      clear hown1 hg1 hat1
      go_roundw
      case rel => exact ⟨f, acc ++ [q1], 2, left - hop, q1, rfl, rfl, rfl, by omega, by omega, by omega, by omega, by omega, by simp; omega, HPA.out, KO2.out, fun h => by simp at h, KB2.out⟩
      case measure => simp [intOf]; omega
end Go.Proofs.YtbniijmabebhoaaDoor
