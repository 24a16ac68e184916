/- The walk of SumsParts: however the bytes are cut, the sum and what is summed are the same; nothing that was there has turned. -/
import Derived.Test.YtlbnikmaafccnaaSumsOfLong
import Derived.Deep.RegionHeld3
import Derived.Deep.DrawnRows
namespace Go.Proofs.Ytlbnikmaafccnaa
open Go.RowKit Sm Bk
set_option linter.unusedVariables false
theorem run_sl_lh (A : Option Addr) (n c i k : Nat) (h1 : i ≤ k) (h2 : k ≤ c) (W : World) :
    (Instr.slice 63 (.slice A n c) (some (.int .i64 (i : Int))) (some (.int .i64 (k : Int))) none).run Try.prog W = .ok (.slice (if c = i then A else A.map (·.add i)) (k - i) (c - i)) W := by
  rw [run_slice_lh W 63 A n c Try.underlying63 .i64 .i64 i k (by omega) (by omega) (by omega)]
  obtain ⟨i0, hi, hz0, hz1, hz2⟩ := info_parts info5
  have : (sizeOf (Try.prog.elem 63)).run Try.prog W = .ok 1 W := by kernel_rfl
  rw [this]
  simp [Result.andThen, sliced]
theorem run_sl_h (A : Option Addr) (n c k : Nat) (h2 : k ≤ c) (W : World) :
    (Instr.slice 63 (.slice A n c) none (some (.int .i64 (k : Int))) none).run Try.prog W = .ok (.slice A k c) W := by
  rw [run_slice_h W 63 A n c Try.underlying63 .i64 k (by omega) (by omega)]
  have : (sizeOf (Try.prog.elem 63)).run Try.prog W = .ok 1 W := by kernel_rfl
  rw [this]
  rcases A with _ | ad
  · simp [Result.andThen, sliced]
  · have : ad.add 0 = ad := by unfold Addr.add; simp
    simp [Result.andThen, sliced, this]
theorem run_sl_l (A : Option Addr) (n c i : Nat) (h1 : i ≤ n) (W : World) :
    (Instr.slice 63 (.slice A n c) (some (.int .i64 (i : Int))) none none).run Try.prog W = .ok (.slice (if c = i then A else A.map (·.add i)) (n - i) (c - i)) W := by
  rw [run_slice_l W 63 A n c Try.underlying63 .i64 i (by omega) (by omega)]
  have : (sizeOf (Try.prog.elem 63)).run Try.prog W = .ok 1 W := by kernel_rfl
  rw [this]
  simp [Result.andThen, sliced]
/-- Nothing that was there has turned. -/
structure PB (w W : World) : Prop where
  bel : Below w.heap.size w W
theorem PB.drew {w W : World} (h : PB w W) : PB w W.drew := ⟨Below.drew h.bel⟩
theorem PB.alloc {w W : World} (h : PB w W) (o : Obj) : PB w (W.alloc o) := ⟨h.bel.alloc h.bel.size o⟩
theorem PB.trans {w W W' : World} (h : PB w W) (k : Below W.heap.size W W') : PB w W' := ⟨h.bel.trans (k.mono h.bel.size)⟩
theorem PB.sl {w W : World} (h : PB w W) {A : Option Addr} {xs : List Value} (s : Sl w w.heap.size A xs) : Sl W W.heap.size A xs := (s.below h.bel).more h.bel.size
/-- A block of slices, as the parts of a call. -/
theorem parts_of {W : World} {g : Nat} {cs : Array Value} (l : List (Option Addr × Nat × List Nat)) (h : W.heap[g]? = some (.cells cs 63 (0, 0))) (hc : cs = (l.map fun p => Value.slice p.1 p.2.2.length p.2.1).toArray)
    (hl : ∀ p ∈ l, Sl W W.heap.size p.1 (p.2.2.map bv) ∧ By p.2.2 ∧ p.2.2.length ≤ maxLen) : Parts W (some ⟨g, 0, none⟩) (l.map (·.2.2)) := by
  intro i us hx
  rw [List.getElem?_map] at hx
  cases hp : l[i]? with
  | none => rw [hp] at hx; simp at hx
  | some p =>
    rw [hp] at hx
    simp at hx
    subst hx
    obtain ⟨h1, h2, h3⟩ := hl p (List.mem_of_getElem? hp)
    have e : (⟨g, 0, none⟩ : Addr).add i = ⟨g, i, none⟩ := by unfold Addr.add; split <;> simp_all
    have hcell : W.cell? ⟨g, i, none⟩ = some (.slice p.1 p.2.2.length p.2.1) := by
      rw [row_cell h i, hc]
      simp [hp]
    exact ⟨_, p.1, p.2.1, rfl, by rw [e]; exact hcell, by rw [e]; exact lt_of_cell hcell, h1, h2, h3⟩
def Kept (W W' : World) : Prop := ∀ (g : Nat) (o : Obj), W.heap[g]? = some o → W'.heap[g]? = some o
theorem kept_of {W W' : World} (h : Below W.heap.size W W') : Kept W W' := fun g o hg => (h.block g (by
  rcases Nat.lt_or_ge g W.heap.size with h0 | h0
  · exact h0
  · rw [Array.getElem?_eq_none h0] at hg; cases hg)).trans hg
theorem row2 (w : World) (o o' : Obj) : ((w.alloc o).alloc o').heap[w.heap.size]? = some o := (Below.heap_alloc _ _ _ (by simp)).trans (heap_alloc_new w o)
theorem row3 (w : World) (o o' : Obj) : ((w.alloc o).alloc o').heap[w.heap.size + 1]? = some o' := by have := heap_alloc_new (w.alloc o) o'; rwa [alloc_size] at this
theorem kept_alloc (w : World) (o : Obj) : Kept w (w.alloc o) := fun g x hg => (Below.heap_alloc _ _ _ (by
  rcases Nat.lt_or_ge g w.heap.size with h0 | h0
  · exact h0
  · rw [Array.getElem?_eq_none h0] at hg; cases hg)).trans hg
theorem ByRow.keep {w w' : World} {base : Nat} {A : Option Addr} {xs : List Nat} (h : ByRow w base A xs) (hk : Kept w w') : ByRow w' base A xs := by
  rcases h with h | ⟨g, cur, e, h1, h2, h3⟩
  · exact .inl h
  · exact .inr ⟨g, cur, e, h1, hk g _ h2, h3⟩
set_option maxRecDepth 100000 in
set_option maxHeartbeats 4000000 in
theorem sparts_walk (A : Option Addr) (n c a0 a1 : Nat) (bs : List Nat) (w : World) (h1 : bs.length = n) (l1 : n ≤ 300) (hnc : n ≤ c) (hc : c ≤ maxLen) (b1 : By bs) (s1 : Sl w w.heap.size A (bs.map bv)) (h0 : a0 < 65536) (h1' : a1 < 65536) :
    Calls Try.prog 12 #[.slice A n c, .agg #[.int .u16 a0, .int .u16 a1]] w fun e w' => e = .returned (.bool true) ∧ Below w.heap.size w w' := by
  have hd1 : decide ((300 : Int) < n) = false := decide_eq_false (by omega)
  obtain ⟨i, hi, E1⟩ : ∃ i, i ≤ n ∧ (a0 : Int) % ((n : Int) + 1) = (i : Int) := ⟨a0 % (n + 1), by have := Nat.mod_lt a0 (show 0 < n + 1 by omega); omega, by simp⟩
  obtain ⟨m, hm, E2⟩ : ∃ m, i + m ≤ n ∧ (a1 : Int) % ((n : Int) - (i : Int) + 1) = (m : Int) := ⟨a1 % (n - i + 1), by have := Nat.mod_lt a1 (show 0 < n - i + 1 by omega); omega, by rw [show (n : Int) - i + 1 = ((n - i + 1 : Nat) : Int) from by omega]; simp⟩
  obtain ⟨k, hk, hkn, E3⟩ : ∃ k, k = i + m ∧ k ≤ n ∧ (i : Int) + (m : Int) = (k : Int) := ⟨i + m, rfl, by omega, by simp⟩
  have R1 := fun W => run_sl_h A n c i (by omega) W
  have R2 := fun W => run_sl_lh A n c i k (by omega) (by omega) W
  have R3 := fun W => run_sl_l A n c k (by omega) W
  have R4 := fun W => run_sl_h A n c k (by omega) W
  have hmx : c ≤ maxLen := hc
  have s2 : Sl w w.heap.size (if c = i then A else A.map (·.add i)) (((bs.drop i).take m).map bv) := by
    have := s1.cut (k := i) (cap := c) (by simp; omega) (by simp; omega)
    rw [← List.map_drop] at this
    rw [List.map_take]
    exact this.pre m
  have s3 : Sl w w.heap.size (if c = k then A else A.map (·.add k)) ((bs.drop k).map bv) := by
    have := s1.cut (k := k) (cap := c) (by simp; omega) (by simp; omega)
    rwa [← List.map_drop] at this
  have l2 : ((bs.drop i).take m).length = k - i := by simp; omega
  have l3 : (bs.drop k).length = n - k := by simp; omega
  have f4 : [bs.take i, (bs.drop i).take m, [], bs.drop k].flatten = bs := by
    simp only [List.flatten_cons, List.flatten_nil, List.append_nil, List.nil_append]
    rw [hk, ← List.drop_drop, List.take_append_drop, List.take_append_drop]
  have b2 : By ((bs.drop i).take m) := fun b hb => b1 b (List.mem_of_mem_drop (List.mem_of_mem_take hb))
  have b3 : By (bs.drop k) := fun b hb => b1 b (List.mem_of_mem_drop hb)
  obtain ⟨B1, hB1⟩ : ∃ B1, (if c = i then A else A.map (·.add i)) = B1 := ⟨_, rfl⟩
  obtain ⟨B2, hB2⟩ : ∃ B2, (if c = k then A else A.map (·.add k)) = B2 := ⟨_, rfl⟩
  obtain ⟨p, hp⟩ : ∃ p, k - i = p := ⟨_, rfl⟩
  obtain ⟨q, hq⟩ : ∃ q, n - k = q := ⟨_, rfl⟩
  obtain ⟨ci, hci⟩ : ∃ q, c - i = q := ⟨_, rfl⟩
  obtain ⟨ck, hck⟩ : ∃ q, c - k = q := ⟨_, rfl⟩
  rw [hB1] at R2 s2
  rw [hB2] at R3 s3
  rw [hp] at R2 l2
  rw [hq] at R3 l3
  rw [hci] at R2
  rw [hck] at R3
  unfold maxLen at hc
  have m0 : ∀ us : List Nat, us.length ≤ 300 → us.length ≤ maxLen := fun us h => by unfold maxLen; omega
  have C1 := hide (fun (W : World) (g : Nat) (hP : PB w W) (hg : W.heap[g]? = some (.cells #[.slice A n c] 63 (0, 0))) =>
    of_any (some ⟨g, 0, none⟩) 1 1 [bs] W rfl (by omega) (parts_of [(A, c, bs)] hg (by simp [h1]) (by simp; exact ⟨hP.sl s1, b1, by unfold maxLen; omega⟩)))
  have C4 := hide (fun (W : World) (g : Nat) (hP : PB w W) (hg : W.heap[g]? = some (.cells #[.slice A i c, .slice B1 p ci, .slice none 0 0, .slice B2 q ck] 63 (0, 0))) =>
    of_any (some ⟨g, 0, none⟩) 4 4 [bs.take i, (bs.drop i).take m, [], bs.drop k] W rfl (by omega) (parts_of [(A, c, bs.take i), (B1, ci, (bs.drop i).take m), (none, 0, []), (B2, ck, bs.drop k)] hg (by rw [List.map_cons, List.map_cons, List.map_cons, List.map_cons, l2, l3, show (bs.take i).length = i by simp; omega]; rfl) (by
      intro x hx
      simp only [List.mem_cons, List.not_mem_nil, or_false] at hx
      rcases hx with rfl | rfl | rfl | rfl
      · exact ⟨hP.sl (by rw [List.map_take]; exact s1.pre i), by_take b1 i, m0 _ (by simp; omega)⟩
      · exact ⟨hP.sl s2, b2, m0 _ (by simp; omega)⟩
      · exact ⟨Sl.nil, fun b h => by simp at h, m0 _ (by simp)⟩
      · exact ⟨hP.sl s3, b3, m0 _ (by simp; omega)⟩)))
  have C2 := hide (fun (W : World) (g : Nat) (hP : PB w W) (hg : W.heap[g]? = some (.cells #[.slice none 0 0, .slice A n c] 63 (0, 0))) =>
    of_any (some ⟨g, 0, none⟩) 2 2 [[], bs] W rfl (by omega) (parts_of [(none, 0, []), (A, c, bs)] hg (by simp [h1]) (by
      intro x hx
      simp only [List.mem_cons, List.not_mem_nil, or_false] at hx
      rcases hx with rfl | rfl
      · exact ⟨Sl.nil, fun b h => by simp at h, m0 _ (by simp)⟩
      · exact ⟨hP.sl s1, b1, m0 _ (by rw [h1]; omega)⟩)))
  have P2 := hide (fun (W : World) (g : Nat) (hP : PB w W) (hg : W.heap[g]? = some (.cells #[.slice A k c, .slice B2 q ck] 63 (0, 0))) =>
    put_any (some ⟨g, 0, none⟩) 2 2 [bs.take k, bs.drop k] W rfl (by omega) (parts_of [(A, c, bs.take k), (B2, ck, bs.drop k)] hg (by rw [List.map_cons, List.map_cons, l3, show (bs.take k).length = k by simp; omega]; rfl) (by
      intro x hx
      simp only [List.mem_cons, List.not_mem_nil, or_false] at hx
      rcases hx with rfl | rfl
      · exact ⟨hP.sl (by rw [List.map_take]; exact s1.pre k), by_take b1 k, m0 _ (by simp; omega)⟩
      · exact ⟨hP.sl s3, b3, m0 _ (by simp; omega)⟩)) (by simp; omega))
  have P1 := hide (fun (W : World) (g : Nat) (hP : PB w W) (hg : W.heap[g]? = some (.cells #[.slice A n c] 63 (0, 0))) =>
    put_any (some ⟨g, 0, none⟩) 1 1 [bs] W rfl (by omega) (parts_of [(A, c, bs)] hg (by simp [h1]) (by simp; exact ⟨hP.sl s1, b1, by unfold maxLen; omega⟩)) (by simp; omega))
  rw [f4] at C4
  rw [show [([] : List Nat), bs].flatten = bs from by simp] at C2
  rw [show [bs].flatten = bs from by simp] at C1 P1
  rw [show [bs.take k, bs.drop k].flatten = bs from by simp] at P2
  obtain ⟨V, hV⟩ : ∃ V, ofV bs = V := ⟨_, rfl⟩
  obtain ⟨pv, hpv⟩ : ∃ pv, putV bs = pv := ⟨_, rfl⟩
  obtain ⟨z, hzl⟩ : ∃ z, pv.length = z := ⟨_, rfl⟩
  rw [hV] at C1 C2 C4
  rw [hpv, hzl] at P1 P2
  have SE := hide (fun (W : World) (A5 A6 : Option Addr) (h : ∃ b, ByRow W b A5 pv) (h' : ∃ b, ByRow W b A6 pv) => same_eq A5 A6 z z z z _ _ pv W hzl hzl h.choose_spec.sl h'.choose_spec.sl)
  have hz : (0 : Int) ≤ i := by omega
  have hz1 : (i : Int) ≤ n := by omega
  have hz2 : (i : Int) ≤ k := by omega
  have hz3 : (k : Int) ≤ n := by omega
  have hz4 : (k : Int) ≤ c := by omega
  have hz5 : (c : Int) ≤ 9223372036854775807 := by omega
  clear h1 b1 s1 hmx hc hB1 hB2 hp hq hci hck hV hpv hzl b2 b3 s2 s3 l2 l3 f4 m0 hk
  go_enter Try.func12, Try.ntmps12
  go_wp2_with fail
  have PB0 : PB w ((w.alloc (.cells #[.int .u16 a0, .int .u16 a1] 80)).alloc (.cells #[.slice A n c] 63)) := ⟨((Below.refl _ _).alloc (Nat.le_refl _) _).alloc (by simp) _⟩
  refine (C1.out _ (w.heap.size + 1) PB0 (by have := heap_alloc_new (w.alloc (.cells #[.int .u16 a0, .int .u16 a1] 80)) (.cells #[.slice A n c] 63); simp only [alloc_size] at this; exact this)).mono ?_
  rintro e w1 ⟨rfl, hb⟩
  have PB1 := PB0.trans hb
  clear hb PB0
  go_wp2_with fail
  go_region_held3 (fun W' => PB w W')
    (first | assumption | exact PB.drew (by assumption) | exact PB.alloc (by assumption) _ | exact PB.drew (PB.alloc (by assumption) _))
    (first
      | (go_at_call 33; (with_reducible refine (C4.out _ _ (by assumption) ?_).mono ?_); · exact heap_alloc_new _ _
         rintro e w2 ⟨rfl, hb⟩; have pb := PB.trans (by assumption) hb; clear hb)
      | (go_at_call 33; (with_reducible refine (C2.out _ _ (by assumption) ?_).mono ?_); · exact heap_alloc_new _ _
         rintro e w3 ⟨rfl, hb⟩; have pb := PB.trans (by assumption) hb; clear hb)
      | (go_at_call 32; (with_reducible refine (P2.out _ _ (by assumption) ?_).mono ?_); · (first | exact heap_alloc_new _ _ | exact row2 _ _ _ | exact row3 _ _ _)
         rintro e w4 ⟨⟨A5, rfl, r5⟩, hb⟩; have pb := PB.trans (by assumption) hb; have kp := hide (kept_of hb); have R5 := hide r5; clear hb r5)
      | (go_at_call 32; (with_reducible refine (P1.out _ _ (by assumption) ?_).mono ?_); · (first | exact heap_alloc_new _ _ | exact kp.out _ _ (heap_alloc_new _ _) | exact kp.out _ _ (row2 _ _ _) | exact kp.out _ _ (row3 _ _ _))
         rintro e w5 ⟨⟨A6, rfl, r6⟩, hb⟩; have pb := PB.trans (by assumption) hb; have kq := hide (kept_of hb); have R6 := hide r6; clear hb r6)
      | (go_at_call 35; (with_reducible refine (SE.out _ A5 A6 ?_ ⟨_, R6.out⟩).mono ?_); · (first | exact ⟨_, R5.out.keep kq.out⟩ | exact ⟨_, (R5.out.keep (kept_alloc _ _)).keep kq.out⟩)
         rintro e w' ⟨rfl, rfl⟩)
      | (go_at_call 30; (with_reducible refine (slives_any _).mono ?_); rintro e w7 ⟨rfl, hb⟩; have pb := PB.trans (by assumption) hb; clear hb))
  all_goals go_wp2_with fail
  all_goals go_ret
  all_goals exact ⟨rfl, PB.bel (by assumption)⟩
theorem sparts_long (A : Option Addr) (n c : Nat) (a0 a1 : Int) (w : World) (hs : 300 < n) (hm : n ≤ maxLen) :
    Calls Try.prog 12 #[.slice A n c, .agg #[.int .u16 a0, .int .u16 a1]] w fun e w' => e = .returned (.bool true) ∧ Below w.heap.size w w' := by
  unfold maxLen at hm
  have h1 : (300 : Int) < n := by omega
  have LI := hide (fun W => slives_any W)
  have HA := hide ((Below.refl w.heap.size w).alloc (Nat.le_refl _) (.cells #[.int .u16 a0, .int .u16 a1] 80))
  go_enter Try.func12, Try.ntmps12
  go_wp2_with fail
  refine (LI.out _).mono ?_
  rintro e w' ⟨rfl, hb⟩
  have HB := hide (HA.out.trans (hb.mono (by simp)))
  clear hb
  go_wp2_with fail
  go_ret
  exact ⟨rfl, HB.out⟩
end Go.Proofs.Ytlbnikmaafccnaa
