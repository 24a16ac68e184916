/- The reference's Check, in memory. -/
import Derived.Test.YtlbnikmaafccnaaSumsRput
import Derived.Deep.RegionHeld3
import Derived.Lib.Bytes
namespace Go.Proofs.Ytlbnikmaafccnaa
open Go.RowKit Sm
set_option linter.unusedVariables false
set_option linter.unusedSimpArgs false
theorem wpAnyH_weak {P : Program} {md : Region.Mode} {ops : Array Oper} {Q : Exit → Act → World → Prop} {S1 S2 : World → Prop} (hi : ∀ w, S2 w → S1 w) : ∀ (fuel : Nat) (listed : Array Bool) (a : Act) (w : World), wpAnyH P md ops Q S2 fuel listed a w → wpAnyH P md ops Q S1 fuel listed a w
  | 0, _, _, _, h => h
  | fuel + 1, _, _, _, h => ⟨h.1, fun i hi' => wpOp_mono (fun a' w' h' => ⟨hi w' h'.1, wpAnyH_weak hi fuel _ a' w' h'.2⟩) (h.2 i hi')⟩
theorem wpAnyH_turn {P : Program} {md : Region.Mode} {ops : Array Oper} {Q : Exit → Act → World → Prop} {S1 S2 : World → Prop} {fuel : Nat} {listed : Array Bool} {a : Act} {w : World} (hi : ∀ w, S2 w → S1 w) (h2 : S2 w) (h : S2 w → wpAnyH P md ops Q S2 fuel listed a w) : wpAnyH P md ops Q S1 fuel listed a w :=
  wpAnyH_weak hi fuel listed a w (h h2)
theorem wpAnyH_taken {P : Program} {md : Region.Mode} {ops : Array Oper} {Q : Exit → Act → World → Prop} {S : World → Prop} {i : Nat} {d : Option Tmp} {oi : Oper} {v : Value} {fuel : Nat} {listed : Array Bool} {a : Act} {w : World} (hi : ops[i]? = some oi) (hd : oi.dst = d)
    (hs : Region.noSelect ops = true) (hf : Region.free md ops listed i = true) (hr : (Region.ready md ops listed).contains i = true)
    (hQ : ∀ c a w, Q (.panic c) (a.put oi.dst v) w → Q (.panic c) a w) (hy : YieldsIf P ops S oi v a) (hS : S w)
    (h : wpAnyH P md ops Q S fuel (listed.setIfInBounds i true) (a.put d v) w) : wpAnyH P md ops Q S (fuel + 1) listed a w := by
  subst hd
  exact wpAnyH_take hi hs hf hr hQ hy hS h
theorem str_inj (xs ys : List Nat) (hx : By xs) (hy : By ys) (h : (strOfNums (xs.map fun b : Nat => (b : Int))).toList = (strOfNums (ys.map fun b : Nat => (b : Int))).toList) : xs = ys := by
  have h2 : (xs.map fun b : Nat => (b : Int)).map (fun n => UInt8.ofNat n.toNat) = (ys.map fun b : Nat => (b : Int)).map (fun n => UInt8.ofNat n.toNat) := by
    rw [Go.Lib.strOfNums_toList, Go.Lib.strOfNums_toList] at h
    exact h
  rw [List.map_map, List.map_map] at h2
  have h3 : ∀ (l : List Nat), By l → (l.map ((fun n : Int => UInt8.ofNat n.toNat) ∘ fun b : Nat => (b : Int))).map UInt8.toNat = l := fun l hl => by
    rw [List.map_map]
    refine List.ext_getElem (by simp) (fun i h1 h2 => ?_)
    have := hl _ (List.getElem_mem h2)
    simp
    omega
  rw [← h3 xs hx, ← h3 ys hy, h2]
theorem sumB_lt (s : Nat) (h : s < 4294967296) : ∀ b ∈ sumB s, b < 256 := by
  intro b hb
  simp only [sumB, List.mem_cons, List.not_mem_nil, or_false] at hb
  omega
theorem putV_len4 (bs : List Nat) : (putV bs).length = bs.length + 4 := by unfold putV sumB; rw [List.length_append]; rfl
set_option maxRecDepth 100000 in
set_option maxHeartbeats 4000000 in
theorem rcheck_any (A : Option Addr) (n c : Nat) (bs : List Nat) (w : World) (hn : bs.length = n) (hs : n ≤ 2000) (hnc : n ≤ c) (hc : c ≤ maxLen) (hb : By bs) (hx : Sl w w.heap.size A (bs.map bv)) :
    Calls Try.prog 41 #[.slice A n c] w fun e w' => e = .returned (.tuple #[.slice (if checkB bs then A else none) (if checkB bs then n - 4 else 0 : Nat) (if checkB bs then c else 0 : Nat), .bool (checkB bs)]) ∧ Below w.heap.size w w' := by
  have hc2 := hc
  unfold maxLen at hc2
  by_cases h4 : n < 4
  · have E : checkB bs = false := by unfold checkB; rw [hn, decide_eq_false (by omega)]; rfl
    rw [E]
    have hd : decide ((n : Int) < 4) = true := decide_eq_true (by omega)
    have hd2 : decide (n < 4) = true := decide_eq_true (by omega)
    clear hn hb hx E
    go_enter Try.func41, Try.ntmps41
    go_wp2_with fail
    go_quiet (fail)
    go_wp2_with fail
    go_ret2
    exact ⟨rfl, below_drewN (Below.refl _ _) _⟩
  · obtain ⟨ad, rfl⟩ : ∃ ad, A = some ad := by obtain ⟨ad, h, _⟩ := hx.at_ (k := 0) (by simp; omega); exact ⟨ad, h⟩
    obtain ⟨m, hm⟩ : ∃ m, n = m + 4 := ⟨n - 4, by omega⟩
    subst hm
    have hlt : (bs.take m).length = m := by rw [List.length_take]; omega
    have hbt : By (bs.take m) := fun b hb' => hb b (List.mem_of_mem_take hb')
    have RP := hide (fun (W : World) (h : Below w.heap.size w W) => (rput_any (some ad) m c (bs.take m) W hlt (by omega) hbt (by rw [List.map_take]; exact ((hx.below h).more h.size).pre m)))
    have cb : ∀ W, Below w.heap.size w W → (convert 63 9 (.slice (some ad) (m + 4) c)).run Try.prog W = .ok (.string (strOfNums (bs.map fun b : Nat => (b : Int)))) W := fun W h => run_convert_sl (c := c) 63 5 9 Try.underlying63 Try.underlying5 Try.underlying9 hn (hx.below h)
    have cp : ∀ W v, W.ownsRow w.heap.size 5 1 v (m + 4) ((putV (bs.take m)).map bv) → (convert 63 9 v).run Try.prog W = .ok (.string (strOfNums ((putV (bs.take m)).map fun b : Nat => (b : Int)))) W := fun W v h => by
      have hl : (putV (bs.take m)).length = m + 4 := by rw [putV_len4, hlt]
      obtain ⟨A2, c2, rfl, _, _, k3⟩ := own_by h hl
      exact run_convert_sl (c := c2) 63 5 9 Try.underlying63 Try.underlying5 Try.underlying9 hl k3.sl
    have hE : checkB bs = ((strOfNums ((putV (bs.take m)).map fun b : Nat => (b : Int))).toList == (strOfNums (bs.map fun b : Nat => (b : Int))).toList) := by
      have h1 : checkB bs = decide (putV (bs.take m) = bs) := by
        unfold checkB
        rw [hn, decide_eq_true (by omega : 4 ≤ m + 4), Nat.add_sub_cancel]
        rfl
      rw [h1]
      rw [Bool.eq_iff_iff, decide_eq_true_iff, beq_iff_eq]
      refine ⟨fun h => by rw [h], fun h => str_inj _ _ (fun b hb' => ?_) hb h⟩
      unfold putV at hb'
      rcases List.mem_append.1 hb' with h' | h'
      · exact hbt b h'
      · exact sumB_lt _ (ofV_lt _) b h'
    obtain ⟨sb, hsb⟩ : ∃ sb, strOfNums (bs.map fun b : Nat => (b : Int)) = sb := ⟨_, rfl⟩
    obtain ⟨sp, hsp⟩ : ∃ sp, strOfNums ((putV (bs.take m)).map fun b : Nat => (b : Int)) = sp := ⟨_, rfl⟩
    rw [hsb] at hE
    rw [hsp] at hE
    simp only [hsb] at cb
    simp only [hsp] at cp
    have CB := hide cb
    have CP := hide cp
    rw [hE]
    have hd : decide (((m + 4 : Nat) : Int) < 4) = false := decide_eq_false (by omega)
    have hd2 : decide (m + 4 < 4) = false := decide_eq_false (by omega)
    have hd3 : ((m : Int) + 4) - 4 = m := by omega
    have hd4 : decide ((m : Int) + 4 < 4) = false := decide_eq_false (by omega)
    have hm1 : (m : Int) ≤ c := by omega
    have hm2 : (0 : Int) ≤ m := by omega
    have hm3 : (m : Int) ≤ 2000 := by omega
    have hwr : IntKind.i64.wrap (m : Int) = m := IntWalk.i64_in _ (by omega)
    clear hsb hsp hE hn hb hx cb cp hlt hbt h4
    obtain ⟨q, hq⟩ : ∃ q, (sp.toList == sb.toList) = q := ⟨_, rfl⟩
    rw [hq]
    go_enter Try.func41, Try.ntmps41
    go_wp2_with fail
    refine wp_region_noPanic ?_
    refine wp_region_held_drew (S := fun w' => Below w.heap.size w w' ∧ (convert 63 9 (.slice (some ad) (m + 4) c)).run Try.prog w' = .ok (.string sb) w') (by kernel_rfl) ⟨(Below.refl _ _).drew, CB.out _ (Below.refl _ _).drew⟩ (fun hHeld => ?_)
    refine wpAnyH_taken (i := 0) (d := some 4) (oi := _) (v := ?_) rfl rfl (by kernel_rfl) (by kernel_rfl) (by kernel_rfl) (fun _ _ _ h => h) (Or.inl ⟨by rfl, ?_⟩) (by assumption) ?_
    rotate_left 1
    · intro w hSw; (try dsimp only at hSw); go_simp; (try with_reducible rfl)
    try simp only [Act.put, List.setIfInBounds_toArray, List.set_cons_zero, List.set_cons_succ]
    refine wpAnyH_taken (i := 1) (d := some 5) (oi := _) (v := ?_) rfl rfl (by kernel_rfl) (by kernel_rfl) (by kernel_rfl) (fun _ _ _ h => h) (Or.inl ⟨by rfl, ?_⟩) (by assumption) ?_
    rotate_left 1
    · intro w hSw; (try dsimp only at hSw); go_simp; (try with_reducible rfl)
    try simp only [Act.put, List.setIfInBounds_toArray, List.set_cons_zero, List.set_cons_succ]
    refine wpAnyH_taken (i := 2) (d := some 6) (oi := _) (v := ?_) rfl rfl (by kernel_rfl) (by kernel_rfl) (by kernel_rfl) (fun _ _ _ h => h) (Or.inl ⟨by rfl, ?_⟩) (by assumption) ?_
    rotate_left 1
    · intro w hSw; (try dsimp only at hSw); go_simp; (try with_reducible rfl)
    try simp only [Act.put, List.setIfInBounds_toArray, List.set_cons_zero, List.set_cons_succ]
    refine wpAnyH_taken (i := 3) (d := some 7) (oi := _) (v := ?_) rfl rfl (by kernel_rfl) (by kernel_rfl) (by kernel_rfl) (fun _ _ _ h => h) (Or.inl ⟨by rfl, ?_⟩) (by assumption) ?_
    rotate_left 1
    · intro w hSw; (try dsimp only at hSw); go_simp; (try with_reducible rfl)
    try simp only [Act.put, List.setIfInBounds_toArray, List.set_cons_zero, List.set_cons_succ]
    refine wpAnyH_taken (i := 4) (d := some 8) (oi := _) (v := ?_) rfl rfl (by kernel_rfl) (by kernel_rfl) (by kernel_rfl) (fun _ _ _ h => h) (Or.inl ⟨by rfl, ?_⟩) (by assumption) ?_
    rotate_left 1
    · intro w hSw; (try dsimp only at hSw); go_simp; (try with_reducible rfl)
    try simp only [Act.put, List.setIfInBounds_toArray, List.set_cons_zero, List.set_cons_succ]
    refine wpAnyH_taken (i := 5) (d := some 9) (oi := _) (v := ?_) rfl rfl (by kernel_rfl) (by kernel_rfl) (by kernel_rfl) (fun _ _ _ h => h) (Or.inl ⟨by rfl, ?_⟩) (by assumption) ?_
    rotate_left 1
    · intro w hSw; (try dsimp only at hSw); go_simp; (try with_reducible rfl)
    try simp only [Act.put, List.setIfInBounds_toArray, List.set_cons_zero, List.set_cons_succ]
    refine wpAnyH_taken (i := 6) (d := some 10) (oi := _) (v := ?_) rfl rfl (by kernel_rfl) (by kernel_rfl) (by kernel_rfl) (fun _ _ _ h => h) (Or.inl ⟨by rfl, ?_⟩) (by assumption) ?_
    rotate_left 1
    · intro w hSw; (try dsimp only at hSw); go_simp; (try with_reducible rfl)
    try simp only [Act.put, List.setIfInBounds_toArray, List.set_cons_zero, List.set_cons_succ]
    refine wpAnyH_taken (i := 7) (d := some 11) (oi := _) (v := ?_) rfl rfl (by kernel_rfl) (by kernel_rfl) (by kernel_rfl) (fun _ _ _ h => h) (Or.inl ⟨by rfl, ?_⟩) (by assumption) ?_
    rotate_left 1
    · intro w hSw; (try dsimp only at hSw); go_simp; (try with_reducible rfl)
    try simp only [Act.put, List.setIfInBounds_toArray, List.set_cons_zero, List.set_cons_succ]
    refine wpAnyH_taken (i := 8) (d := some 12) (oi := _) (v := ?_) rfl rfl (by kernel_rfl) (by kernel_rfl) (by kernel_rfl) (fun _ _ _ h => h) (Or.inl ⟨by rfl, ?_⟩) (by assumption) ?_
    rotate_left 1
    · intro w hSw; (try dsimp only at hSw); go_simp; (try with_reducible rfl)
    try simp only [Act.put, List.setIfInBounds_toArray, List.set_cons_zero, List.set_cons_succ]
    refine wpAnyH_taken (i := 11) (d := some 15) (oi := _) (v := ?_) rfl rfl (by kernel_rfl) (by kernel_rfl) (by kernel_rfl) (fun _ _ _ h => h) (Or.inl ⟨by rfl, ?_⟩) (by assumption) ?_
    rotate_left 1
    · intro w hSw; (try dsimp only at hSw); go_simp; (try with_reducible rfl)
    try simp only [Act.put, List.setIfInBounds_toArray, List.set_cons_zero, List.set_cons_succ]
    refine wpAnyH_taken (i := 12) (d := some 16) (oi := _) (v := ?_) rfl rfl (by kernel_rfl) (by kernel_rfl) (by kernel_rfl) (fun _ _ _ h => h) (Or.inl ⟨by rfl, ?_⟩) (by assumption) ?_
    rotate_left 1
    · intro w hSw; (try dsimp only at hSw); go_simp; (try with_reducible rfl)
    try simp only [Act.put, List.setIfInBounds_toArray, List.set_cons_zero, List.set_cons_succ]
    refine wpAnyH_ready (rs := [9]) (by kernel_rfl) (by simp) ?_
    refine AllReadyH.cons (o := _) rfl (fun K hK => ?_) AllReadyH.nil
    go_simp
    refine (RP.out _ (Below.refl _ _).drew).mono ?_; rintro e w2 ⟨⟨v2, rfl, ho2⟩, hb2⟩
    have HB2 := hide ((Below.refl w.heap.size w).drew.trans hb2)
    have cv := CP.out _ _ ho2
    refine hK.out _ _ ⟨HB2.out, CB.out _ HB2.out⟩ (fun hHeld2 => ?_)
    clear hK K
    try simp only [Act.put, List.setIfInBounds_toArray, List.set_cons_zero, List.set_cons_succ]
    refine wpAnyH_turn (S2 := fun w' => (Below w.heap.size w w' ∧ (convert 63 9 (.slice (some ad) (m + 4) c)).run Try.prog w' = .ok (.string sb) w') ∧ (convert 63 9 v2).run Try.prog w' = .ok (.string sp) w') (fun _ h => h.1) ⟨⟨HB2.out, CB.out _ HB2.out⟩, cv⟩ (fun hHeld3 => ?_)
    refine wpAnyH_taken (i := 10) (d := some 14) (oi := _) (v := ?_) rfl rfl (by kernel_rfl) (by kernel_rfl) (by kernel_rfl) (fun _ _ _ h => h) (Or.inl ⟨by rfl, ?_⟩) (by assumption) ?_
    rotate_left 1
    · intro w hSw; (try dsimp only at hSw); go_simp; (try with_reducible rfl)
    try simp only [Act.put, List.setIfInBounds_toArray, List.set_cons_zero, List.set_cons_succ]
    refine wpAnyH_taken (i := 13) (d := some 17) (oi := _) (v := ?_) rfl rfl (by kernel_rfl) (by kernel_rfl) (by kernel_rfl) (fun _ _ _ h => h) (Or.inl ⟨by rfl, ?_⟩) (by assumption) ?_
    rotate_left 1
    · intro w hSw; (try dsimp only at hSw); go_simp; (try with_reducible rfl)
    try simp only [Act.put, List.setIfInBounds_toArray, List.set_cons_zero, List.set_cons_succ]
    refine wpAnyH_taken (i := 14) (d := some 18) (oi := _) (v := ?_) rfl rfl (by kernel_rfl) (by kernel_rfl) (by kernel_rfl) (fun _ _ _ h => h) (Or.inl ⟨by rfl, ?_⟩) (by assumption) ?_
    rotate_left 1
    · intro w hSw; (try dsimp only at hSw); go_simp; (try with_reducible rfl)
    try simp only [Act.put, List.setIfInBounds_toArray, List.set_cons_zero, List.set_cons_succ]
    refine wpAnyH_done (by kernel_rfl) ?_ _
    refine NoPanic.normal ?_
    clear hHeld hHeld2 hHeld3 cv
    cases q
    · go_wp2_with fail
      go_ret2
      exact ⟨rfl, HB2.out⟩
    · go_wp2_with fail
      go_ret2
      exact ⟨rfl, HB2.out⟩
