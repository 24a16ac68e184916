/- The walk of ScoresOrder: whatever two scores and run of at most 1000 rewards and penalties, the law returns true, and nothing that was there has turned. -/
import Derived.Test.YtlbnikmaafccnaaScores
import Derived.BigQuiet
import Derived.Deep.QuietTactic
namespace Go.Proofs.Ytlbnikmaafccnaa
open Go.RowKit
set_option linter.unusedVariables false
theorem stp_mono (a b : Int) (g : Bool) (h : a ≤ b) : Sc.stp a g ≤ Sc.stp b g := by unfold Sc.stp Sc.rew Sc.pen; split <;> omega
theorem fold_mono (bs : List Bool) : ∀ a b : Int, a ≤ b → bs.foldl Sc.stp a ≤ bs.foldl Sc.stp b := by
  induction bs with
  | nil => intro a b h; exact h
  | cons g r ih => intro a b h; exact ih _ _ (stp_mono a b g h)
theorem run_mono (bs : List Bool) (a b : Int) (h : a ≤ b) : Sc.run a bs ≤ Sc.run b bs := fold_mono bs _ _ (by omega)
theorem run_parts (b : Int) (bs : List Bool) (c : Nat) (hb : 0 ≤ b) : Sc.run (Sc.run b (bs.take c)) (bs.drop c) = Sc.run b bs := by
  have h := Sc.run_bd b (bs.take c) hb
  have e : min (Sc.run b (bs.take c)) 1000 = Sc.run b (bs.take c) := by omega
  have e2 : Sc.run b bs = (bs.drop c).foldl Sc.stp (Sc.run b (bs.take c)) := by
    unfold Sc.run
    rw [← List.foldl_append, List.take_append_drop]
  rw [e2]
  unfold Sc.run at e ⊢
  rw [e]
theorem fold_rewards (n : Nat) : ∀ a : Int, 0 ≤ a → a ≤ n → a ≤ 1000 → (List.replicate n true).foldl Sc.stp a = 0 := by
  induction n with
  | zero => intro a h h' _; simp; omega
  | succ n ih =>
    intro a h h' h''
    rw [List.replicate_succ, List.foldl_cons]
    have e : Sc.stp a true = max a 1 - 1 := by unfold Sc.stp Sc.rew; simp; omega
    rw [e]
    exact ih _ (by omega) (by omega) (by omega)
theorem run_rewards (a : Int) (h : 0 ≤ a) : Sc.run a (List.replicate (min 1000 a).toNat true) = 0 := fold_rewards _ _ (by omega) (by omega) (by omega)
theorem flipw {P : Program} {f : FuncId} {args : Array Value} {w : World} {v : Value} (h : Calls P f args w fun e w' => e = .returned v ∧ w = w') : Calls P f args w fun e w' => e = .returned v ∧ w' = w :=
  h.mono fun _ _ ⟨a, b⟩ => ⟨a, b.symm⟩
theorem made_row (z : Value) (m : Nat) (hz : z.cells = #[z]) : (madeCells z.cells (m * 1)).toList = List.replicate m z := by
  rw [hz]
  apply List.ext_getElem?
  intro i
  simp [madeCells, List.getElem?_replicate, Nat.mod_one]
  split <;> simp_all
def rowT (m k : Nat) : List Value := List.replicate k (Value.bool true) ++ List.replicate (m - k) (Value.bool false)
theorem rowT_zero (m : Nat) : rowT m 0 = List.replicate m (Value.bool false) := by simp [rowT]
theorem rowT_set (m k : Nat) (h : k < m) : (rowT m k).set k (Value.bool true) = rowT m (k + 1) := by
  unfold rowT
  obtain ⟨j, hj⟩ : ∃ j, m - k = j + 1 := ⟨m - k - 1, by omega⟩
  rw [List.set_append_right _ _ (by simp), hj, show m - (k + 1) = j from by omega, List.replicate_succ]
  simp only [List.length_replicate, Nat.sub_self, List.set_cons_zero]
  rw [List.replicate_succ' (n := k), List.append_assoc]
  rfl
theorem rowT_len (m k : Nat) (h : k ≤ m) : (rowT m k).length = m := by simp [rowT]; omega
theorem rowT_full (m : Nat) : rowT m m = (List.replicate m true).map .bool := by simp [rowT]
theorem rowT_at (m k : Nat) (h : k < m) : (rowT m k)[k]? = some (Value.bool false) := by
  unfold rowT
  rw [List.getElem?_append_right (by simp), List.length_replicate, Nat.sub_self]
  obtain ⟨j, hj⟩ : ∃ j, m - k = j + 1 := ⟨m - k - 1, by omega⟩
  rw [hj, List.replicate_succ]
  rfl
theorem info4 : (Try.prog.info? 4).map (fun i => (i.zero, i.size, i.bytes)) = some (some (.bool false), 1, 1) := by kernel_rfl
set_option maxRecDepth 100000 in
set_option maxHeartbeats 1000000 in
theorem order_walk_long (a b : Int) (A : Option Addr) (len cap : Nat) (w : World) (hs : 1000 < len) (hm : len ≤ maxLen) :
    Calls Try.prog 5 #[.int .u16 a, .int .u16 b, .slice A len cap] w fun e w' => e = .returned (.bool true) ∧ Below w.heap.size w w' := by
  unfold maxLen at hm
  have h1 : (1000 : Int) < len := by omega
  have LI := hide (scLives_any w)
  go_enter Try.func5, Try.ntmps5
  go_wp2_with fail
  refine LI.out.mono ?_
  rintro e w' ⟨rfl, rfl⟩
  go_wp2_with fail
  go_ret
  exact ⟨rfl, (Below.refl _ _).alloc (Nat.le_refl _) _⟩
set_option maxRecDepth 100000 in
set_option maxHeartbeats 1000000 in
theorem order_walk (a b : Int) (A : Option Addr) (bs : List Bool) (len cap : Nat) (w : World) (ha : 0 ≤ a) (ha' : a ≤ 65535) (hb : 0 ≤ b) (hb' : b ≤ 65535) (hl : bs.length = len) (hs : len ≤ 1000) (hlc : len ≤ cap) (hcm : cap ≤ maxLen)
    (hr : Sl w w.heap.size A (bs.map .bool)) :
    Calls Try.prog 5 #[.int .u16 a, .int .u16 b, .slice A len cap] w fun e w' => e = .returned (.bool true) ∧ Below w.heap.size w w' := by
  obtain ⟨i0, hi, hz0, hz1, hz2⟩ := info_parts info4
  unfold maxLen at hcm
  have HL := hide hl
  have HR := hide hr
  clear hl hr
  obtain ⟨x, y, hxy⟩ : ∃ x y, (a ≤ b ∧ x = a ∧ y = b) ∨ (b < a ∧ x = b ∧ y = a) := by
    rcases Int.lt_or_le b a with h | h
    · exact ⟨b, a, .inr ⟨h, rfl, rfl⟩⟩
    · exact ⟨a, b, .inl ⟨h, rfl, rfl⟩⟩
  have bx : 0 ≤ x ∧ x ≤ 65535 ∧ 0 ≤ y ∧ y ≤ 65535 ∧ x ≤ y := by omega
  obtain ⟨x0, x1, y0, y1, xy⟩ := bx
  have b1 := Sc.run_bd x bs x0
  have b2 := Sc.run_bd y bs y0
  have b3 := run_mono bs x y xy
  have cx : 0 ≤ x % ((len : Int) + 1) ∧ x % ((len : Int) + 1) ≤ len := by
    have := Int.emod_lt_of_pos x (show (0 : Int) < (len : Int) + 1 by omega)
    have := Int.emod_nonneg x (show (len : Int) + 1 ≠ 0 by omega)
    omega
  obtain ⟨c, hc⟩ := Int.eq_ofNat_of_zero_le cx.1
  have HC := hide hc
  have hcl : c ≤ len := by omega
  clear hc cx
  have b4 := Sc.run_bd y (bs.take c) y0
  have RP := hide (run_parts y bs c y0)
  have R1 := hide (fun n : Nat => Calls.quiet_of_same (flipw (run_any y A (bs.take c) c cap (w.drewN n) y0 y1 (by rw [List.length_take, HL.out]; omega) (by omega) (by rw [List.map_take]; exact HR.out.pre c))))
  have R2 := hide (fun n : Nat => Calls.quiet_of_same (flipw (run_any (Sc.run y (bs.take c)) (if cap = c then A else A.map (·.add c)) (bs.drop c) (len - c) (cap - c) (w.drewN n) b4.1 (by omega) (by rw [List.length_drop, HL.out]) (by omega) (by rw [List.map_drop]; exact HR.out.cut (by rw [List.length_map, HL.out]; exact hcl) (by rw [List.length_map, HL.out]; exact hlc)))))
  rw [RP.out] at R2
  rcases hxy with ⟨hab, rfl, rfl⟩ | ⟨hab, rfl, rfl⟩
  all_goals
    go_enter Try.func5, Try.ntmps5
    go_wp2_with fail
    refine (run_any x A bs len cap w x0 x1 HL.out hs HR.out).mono ?_
    rintro e w' ⟨rfl, rfl⟩
    go_wp2_with fail
    refine (run_any y A bs len cap w y0 y1 HL.out hs HR.out).mono ?_
    rintro e w' ⟨rfl, rfl⟩
    go_wp2_with fail
    rw [HC.out]
    have d1 : decide (Sc.run y bs < Sc.run x bs) = false := by simpa using b3
    have d2 : decide ((1000 : Int) < Sc.run y bs) = false := by simp; omega
    have i1 : (0 : Int) ≤ c := by omega
    have i2 : (c : Int) ≤ len := by omega
    have i3 : (c : Int) ≤ cap := by omega
    have i4 : (len : Int) ≤ cap := by omega
    go_quiet ((go_at_call 23; first | (with_reducible exact R1.out _) | (with_reducible exact R2.out _)))
    clear d1 d2 i1 i2 i3 i4 R1 R2 RP b1 b2 b3 b4 xy hab
    rcases (show x ≤ 1000 ∨ 1000 < x from by omega) with hx | hx
  all_goals
    go_wp2_with (at_make; refine wpList_make_full _ rfl _ _ 23 rfl w.heap.size 4 i0 (.bool false) 1 Try.underlying23 hi hz0 hz1 .i64 .i64 _ _ (min 1000 x).toNat rfl rfl (by omega) (by omega) (by rw [hz2]; omega) (by unfold maxLen; omega) (Nat.le_refl _) ?_; intro w2 hown2 hg2)
  all_goals
    have hm : (min 1000 x).toNat ≤ 1000 := by omega
    have hmx : Sc.run x (List.replicate (min 1000 x).toNat true) = 0 := run_rewards x x0
    generalize (min 1000 x).toNat = m at *
    rw [made_row _ _ rfl, ← rowT_zero] at hown2
    have HO2 := hide hown2
    have HB2 := hide ((below_drewN (Below.refl w.heap.size w) nq).grown hg2 (Nat.le_refl _) (by simp))
    have HM := hide hmx
    clear hown2 hg2 hmx
    go_loopw [11] (fun i wr => ∃ k : Nat, k ≤ m ∧ i = .int .i64 k ∧ wr.ownsRow w.heap.size 4 1 (.slice (some ⟨w.heap.size, 0, none⟩) m m) m (rowT m k) ∧ Below w.heap.size w wr) (fun i _ => m - (intOf i).toNat)
    case atStart => exact ⟨0, Nat.zero_le _, rfl, HO2.out, HB2.out⟩
    case round =>
      obtain ⟨k, hk, rfl, hown, hbel⟩ := hrel
      by_cases hlt : k < m
      · have hc := hown.cellAt k (by omega)
        rw [rowT_at m k hlt] at hc
        have hf := hown.frozenAt k
        have ho := (hown.stored k (.bool true)).1
        rw [rowT_set m k hlt] at ho
        have HO := hide ho
        have HB := hide hbel
        clear ho hown hbel
        go_wp2_with fail
        go_roundw
        case rel => exact ⟨k + 1, by omega, by go_num, HO.out, HB.out.setCell (Nat.le_refl _) _⟩
        case measure => simp [intOf]; omega
      · obtain rfl : k = m := by omega
        have HO := hide hown
        have HB := hide hbel
        clear hown hbel
        go_wp2_with fail
        refine (run_any x (some ⟨w.heap.size, 0, none⟩) (List.replicate k true) k k wr x0 x1 (by simp) hm (by rw [← rowT_full]; exact Sl.of_own HO.out)).mono ?_
        rintro e w' ⟨rfl, rfl⟩
        rw [HM.out]
        go_wp2_with fail
        refine (scLives_any _).mono ?_
        rintro e w' ⟨rfl, rfl⟩
        go_wp2_with fail
        go_ret
        exact ⟨rfl, HB.out.alloc HB.out.size _⟩
end Go.Proofs.Ytlbnikmaafccnaa
