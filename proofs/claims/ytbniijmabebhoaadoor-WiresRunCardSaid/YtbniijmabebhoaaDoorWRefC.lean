/- The contracts of the reference of layer 8. -/
import Derived.Test.YtbniijmabebhoaaDoorWRef
namespace Go.Proofs.YtbniijmabebhoaaDoor
open Go.RowKit
set_option linter.unusedVariables false
namespace Wr
open Mp
section
variable {w w' : World} {base Br O cap n : Nat} {rb : Nat → Nat} {H : List (Int → Option Int)} {G : Int → Option Int}
theorem info36 : (Tryd.prog.info? 36).map (fun i => (i.zero, i.size, i.bytes)) = some (some (.agg #[.int .i64 0, .bool false]), 2, 16) := by kernel_rfl
theorem info86 : (Tryd.prog.info? 86).map (fun i => (i.zero, i.size, i.bytes)) = some (some (.slice none 0 0), 1, 24) := by kernel_rfl
theorem run_mkR (n : Nat) (hn : n ≤ 16) (W : World) : (Instr.makeSlice 86 (.int .i64 (4 * (n : Int))) (.int .i64 (4 * (n : Int)))).run Tryd.prog W = .ok (.slice (some ⟨W.heap.size, 0, none⟩) (4 * n) (4 * n)) (W.alloc (.cells (rowA (fun _ => none) (4 * n)) 36)) := by
  obtain ⟨i0, hi, hz0, hz1, hz2⟩ := info_parts info36
  have h := run_make (P := Tryd.prog) W 86 36 i0 (.agg #[.int .i64 0, .bool false]) Tryd.underlying86 hi hz0 .i64 .i64 (4 * (n : Int)) (4 * (n : Int)) (by omega) (by omega) (by rw [hz2]; omega) (by omega)
  rw [h, hz1, rowL_none, show (4 * (n : Int)).toNat = 4 * n from by omega]
set_option maxRecDepth 100000 in
theorem rnew_bad (n : Int) (w : World) (h : n < 4 ∨ 16 < n) : Calls Tryd.prog 17 #[.int .i64 n] w fun e w' => e = .returned (.tuple #[.pointer none, .int .i64 1]) ∧ w = w' := by
  obtain ⟨b1, hb1⟩ : ∃ b, decide (n < 4) = b := ⟨_, rfl⟩
  obtain ⟨b2, hb2⟩ : ∃ b, decide (16 < n) = b := ⟨_, rfl⟩
  have hor : b1 = true ∨ (b1 = false ∧ b2 = true) := by
    subst hb1; subst hb2
    simp only [decide_eq_true_eq, decide_eq_false_iff_not]
    omega
  clear h
  rcases hor with rfl | ⟨rfl, rfl⟩ <;>
  · go_enter Tryd.func17, Tryd.ntmps17
    go_wp2_with fail
    go_ret2
    exact ⟨rfl, rfl⟩
set_option maxRecDepth 100000 in
theorem rnew_any (n : Nat) (w : World) (h1 : 4 ≤ n) (h2 : n ≤ 16) : Calls Tryd.prog 17 #[.int .i64 (n : Int)] w fun e w' => ∃ Br O cap rb, e = .returned (.tuple #[ptr Br, .int .i64 0]) ∧ Rf w' w.heap.size Br O cap rb n [] (fun _ => none) ∧ Far (fun _ => False) w w' := by
  have hd1 : decide ((n : Int) < 4) = false := decide_eq_false (by omega)
  have hd2 : decide ((16 : Int) < n) = false := decide_eq_false (by omega)
  have MK := fun W => run_mkR n h2 W
  obtain ⟨C, hC⟩ : ∃ C, rowA (fun _ => none) (4 * n) = C := ⟨_, rfl⟩
  rw [hC] at MK
  have FIN := hide (show Rf (((w.alloc (.cells C 36)).alloc (.cells #[.slice (some ⟨w.heap.size, 0, none⟩) (4 * n) (4 * n)] 86)).alloc (.cells #[.int .i64 n, .slice (some ⟨w.heap.size + 1, 0, none⟩) 1 1] 46)) w.heap.size (w.heap.size + 1 + 1) (w.heap.size + 1) 1 (fun _ => w.heap.size) n [] (fun _ => none) from by
    have z1 : (w.alloc (.cells C 36)).heap.size = w.heap.size + 1 := alloc_size _ _
    have z2 : ((w.alloc (.cells C 36)).alloc (.cells #[.slice (some ⟨w.heap.size, 0, none⟩) (4 * n) (4 * n)] 86)).heap.size = w.heap.size + 1 + 1 := by rw [alloc_size, z1]
    have k1 := heap_alloc_new ((w.alloc (.cells C 36)).alloc (.cells #[.slice (some ⟨w.heap.size, 0, none⟩) (4 * n) (4 * n)] 86)) (.cells #[.int .i64 n, .slice (some ⟨w.heap.size + 1, 0, none⟩) 1 1] 46)
    rw [z2] at k1
    have k2 := heap_alloc_new (w.alloc (.cells C 36)) (.cells #[.slice (some ⟨w.heap.size, 0, none⟩) (4 * n) (4 * n)] 86)
    rw [z1] at k2
    have k2' := (Below.heap_alloc ((w.alloc (.cells C 36)).alloc (.cells #[.slice (some ⟨w.heap.size, 0, none⟩) (4 * n) (4 * n)] 86)) (.cells #[.int .i64 n, .slice (some ⟨w.heap.size + 1, 0, none⟩) 1 1] 46) (w.heap.size + 1) (by omega)).trans k2
    have k3 := (Below.heap_alloc ((w.alloc (.cells C 36)).alloc (.cells #[.slice (some ⟨w.heap.size, 0, none⟩) (4 * n) (4 * n)] 86)) (.cells #[.int .i64 n, .slice (some ⟨w.heap.size + 1, 0, none⟩) 1 1] 46) w.heap.size (by omega)).trans ((Below.heap_alloc (w.alloc (.cells C 36)) (.cells #[.slice (some ⟨w.heap.size, 0, none⟩) (4 * n) (4 * n)] 86) w.heap.size (by omega)).trans (heap_alloc_new w (.cells C 36)))
    refine ⟨h1, h2, k1, ⟨rfl, .inr ⟨_, _, _, rfl, by omega, k2', Nat.le_refl _, by decide, rfl, rfl⟩⟩, fun i hi => ?_, fun i j hi hj hne => ?_, by omega, fun _ _ => Nat.le_refl _⟩
    · rw [k3, ← hC]
      have : full [] (fun _ => none) i = fun _ => none := by
        funext j
        unfold full
        have : ([] : List (Int → Option Int)).length - i = 0 := by simp
        rw [this]; rfl
      rw [this]
    · simp at hi hj; omega)
  clear hC
  go_enter Tryd.func17, Tryd.ntmps17
  go_wp2_with fail
  go_ret2
  exact ⟨_, _, _, _, rfl, FIN.out, (((Far.refl _ w).alloc _).alloc _).alloc _⟩
theorem inB_cases (n : Nat) (k : Int) (h : inB n k = false) : k < 0 ∨ 4 * (n : Int) ≤ k := by
  unfold inB at h
  simp at h
  omega
set_option maxRecDepth 100000 in
theorem rset_no (h : Rf w base Br O cap rb n H G) (k x : Int) (b : Bool) (hk : inB n k = false) : Calls Tryd.prog 19 #[ptr Br, .int .i64 k, .agg #[.int .i64 x, .bool b]] w fun e w' => e = .returned (.int .i64 1) ∧ Far (fun _ => False) w w' := by
  have hB := lt_of_blk h.st
  have c0 : (w.alloc (.cells #[.int .i64 x, .bool b] 36)).cell? ⟨Br, 0, none⟩ = some (.int .i64 n) := (World.cell?_alloc_lt w _ _ hB).trans (row_cell h.st 0)
  have hor := inB_cases n k hk
  have hn16 := h.n16
  obtain ⟨b1, hb1⟩ : ∃ b, decide (k < 0) = b := ⟨_, rfl⟩
  obtain ⟨b2, hb2⟩ : ∃ b, decide (4 * (n : Int) ≤ k) = b := ⟨_, rfl⟩
  have hor : b1 = true ∨ (b1 = false ∧ b2 = true) := by
    subst hb1; subst hb2
    simp only [decide_eq_true_eq, decide_eq_false_iff_not]
    omega
  have HF := hide ((Far.refl (fun _ => False) w).alloc (.cells #[.int .i64 x, .bool b] 36))
  clear h hk hB
  rcases hor with rfl | ⟨rfl, rfl⟩ <;>
  · go_enter Tryd.func19, Tryd.ntmps19
    go_wp2_with fail
    go_ret
    exact ⟨rfl, HF.out⟩
theorem full_last (H : List (Int → Option Int)) (G : Int → Option Int) : full H G H.length = G := by
  funext j
  unfold full
  rw [Nat.sub_self]
  rfl
theorem full_less (H : List (Int → Option Int)) (G G' : Int → Option Int) (i : Nat) (h : i < H.length) : full H G i = full H G' i := by
  funext j
  unfold full
  obtain ⟨m, hm⟩ : ∃ m, H.length - i = m + 1 := ⟨H.length - i - 1, by omega⟩
  rw [hm, past_succ, past_succ]
theorem Rf.put (h : Rf w base Br O cap rb n H G) (q : Nat) (o : Option Int) (hq : q < 4 * n) :
    Rf ((w.setCell ⟨rb H.length, q * 2, none⟩ (.int .i64 (o.getD 0))).setCell ⟨rb H.length, q * 2 + 1, none⟩ (.bool o.isSome)) base Br O cap rb n H (fun j => if j = q then o else G j) ∧
    Far (fun k => k = rb H.length) w ((w.setCell ⟨rb H.length, q * 2, none⟩ (.int .i64 (o.getD 0))).setCell ⟨rb H.length, q * 2 + 1, none⟩ (.bool o.isSome)) := by
  have F : Far (fun k => k = rb H.length) w ((w.setCell ⟨rb H.length, q * 2, none⟩ (.int .i64 (o.getD 0))).setCell ⟨rb H.length, q * 2 + 1, none⟩ (.bool o.isSome)) :=
    Far.setCell (S := fun k => k = rb H.length) (Far.setCell (S := fun k => k = rb H.length) (Far.refl _ w) (.inl rfl) _) (.inl rfl) _
  have N := h.ne H.length (Nat.le_refl _)
  refine ⟨⟨h.n4, h.n16, (F.block _ (lt_of_blk h.st) N.2.1).trans h.st, own_keep h.own F (fun g hg => by simp [Value.ownBlock] at hg; subst hg; exact N.2.2), fun i hi => ?_, h.inj, h.lo⟩, F⟩
  rcases Nat.lt_or_ge i H.length with hl | hl
  · rw [full_less H _ G i hl]
    exact (F.block _ (lt_of_blk (h.row i hi)) (h.inj i H.length hi (Nat.le_refl _) (by omega))).trans (h.row i hi)
  · obtain rfl : i = H.length := by omega
    have k1 := row_set (row_set (h.row H.length (Nat.le_refl _)) (q * 2) (.int .i64 (o.getD 0))) (q * 2 + 1) (.bool o.isSome)
    rw [k1, full_last, full_last]
    congr 2
    unfold rowA
    apply Array.ext'
    rw [Array.toList_setIfInBounds, Array.toList_setIfInBounds]
    show ((rowL G (4 * n)).set (q * 2) _).set (q * 2 + 1) _ = _
    rw [Nat.mul_comm q 2]
    exact rowL_set G (4 * n) q hq o
set_option maxRecDepth 100000 in
set_option maxHeartbeats 4000000 in
theorem rset_yes (h : Rf w base Br O cap rb n H G) (hH : H.length ≤ 1000) (q : Nat) (o : Option Int) (hq : q < 4 * n) : Calls Tryd.prog 19 #[ptr Br, .int .i64 (q : Int), .agg #[.int .i64 (o.getD 0), .bool o.isSome]] w fun e w' => e = .returned (.int .i64 0) ∧ Rf w' base Br O cap rb n H (fun j => if j = q then o else G j) ∧ Far (fun k => k = rb H.length) w w' := by
  have hB := lt_of_blk h.st
  obtain ⟨x, hx⟩ : ∃ x, o.getD 0 = x := ⟨_, rfl⟩
  obtain ⟨b, hb⟩ : ∃ b, o.isSome = b := ⟨_, rfl⟩
  obtain ⟨W, hW⟩ : ∃ W, w.alloc (.cells #[.int .i64 x, .bool b] 36) = W := ⟨_, rfl⟩
  have RW : Rf W base Br O cap rb n H G := by rw [← hW]; exact h.far (S := fun _ => False) ((Far.refl _ w).alloc _) (fun e => e) (fun e => e) (fun _ _ e => e)
  have hX : W.heap[w.heap.size]? = some (.cells #[.int .i64 x, .bool b] 36 (0, 0)) := by rw [← hW]; exact heap_alloc_new w _
  have c0 := row_cell RW.st 0
  have c1 := row_cell RW.st 1
  have cO := RW.cellO H.length (Nat.le_refl _)
  have x0 := row_cell hX 0
  have x1 := row_cell hX 1
  obtain ⟨L, hL⟩ : ∃ L, H.length = L := ⟨_, rfl⟩
  rw [hL] at c1 cO hH
  rw [hx, hb]
  have hd1 : decide ((q : Int) < 0) = false := decide_eq_false (by omega)
  have hd2 : decide (4 * (n : Int) ≤ q) = false := decide_eq_false (by omega)
  have c0 : W.cell? ⟨Br, 0, none⟩ = some (.int .i64 n) := c0
  have c1 : W.cell? ⟨Br, 1, none⟩ = some (.slice (some ⟨O, 0, none⟩) (L + 1) cap) := c1
  have x0 : W.cell? ⟨w.heap.size, 0, none⟩ = some (.int .i64 x) := x0
  have x1 : W.cell? ⟨w.heap.size, 1, none⟩ = some (.bool b) := x1
  have hn16 := RW.n16
  have r0 := (RW.cellR H.length q (Nat.le_refl _) hq).1
  have r1 := (RW.cellR H.length q (Nat.le_refl _) hq).2
  have fz := fun i => row_free (RW.row H.length (Nat.le_refl _)) i
  rw [hL] at r0 r1 fz
  obtain ⟨v0, hv0⟩ : ∃ v : Int, (full H G L ↑q).getD 0 = v := ⟨_, rfl⟩
  obtain ⟨v1, hv1⟩ : ∃ v : Bool, (full H G L ↑q).isSome = v := ⟨_, rfl⟩
  rw [hv0, Nat.mul_comm 2 q] at r0
  rw [hv1, Nat.mul_comm 2 q] at r1
  have n1 : Br ≠ rb L := by rw [← hL]; exact (RW.ne H.length (Nat.le_refl _)).2.1
  have n2 : O ≠ rb L := by rw [← hL]; exact (RW.ne H.length (Nat.le_refl _)).2.2
  have n3 : w.heap.size ≠ rb L := by
    rw [← hL]
    have := lt_of_blk (h.row H.length (Nat.le_refl _))
    omega
  have RH := hide RW
  have HX := hide hx
  have HB := hide hb
  have HL := hide hL
  have hq1 : (q : Int) < 4 * (n : Int) := by omega
  have hq0 : (0 : Int) ≤ q := by omega
  clear h RW hX hx hb hB hL hv0 hv1
  go_enter Tryd.func19, Tryd.ntmps19
  go_wp2_with fail
  have FIN := hide (RH.out.put q o hq)
  rw [HX.out, HB.out, HL.out] at FIN
  have FW := hide (show Far (fun _ => False) w W from by rw [← hW]; exact (Far.refl _ w).alloc _)
  clear hW
  go_region
  go_wp2_with fail
  go_ret
  exact ⟨rfl, ⟨FIN.out.1.n4, FIN.out.1.n16, FIN.out.1.st, FIN.out.1.own, FIN.out.1.row, FIN.out.1.inj, FIN.out.1.lo⟩, by rw [HL.out]; exact ((FW.out.wide (fun _ e => e.elim)).trans FIN.out.2).drew⟩
set_option maxRecDepth 100000 in
theorem rgiven_no (h : Rf w base Br O cap rb n H G) (k : Int) (hk : inB n k = false) : Calls Tryd.prog 26 #[ptr Br, .int .i64 k] w fun e w' => e = .returned (.tuple #[.int .i64 0, .bool false]) ∧ Far (fun _ => False) w w' := by
  have c0 : w.cell? ⟨Br, 0, none⟩ = some (.int .i64 n) := row_cell h.st 0
  have hor := inB_cases n k hk
  have hn16 := h.n16
  obtain ⟨b1, hb1⟩ : ∃ b, decide (k < 0) = b := ⟨_, rfl⟩
  obtain ⟨b2, hb2⟩ : ∃ b, decide (4 * (n : Int) ≤ k) = b := ⟨_, rfl⟩
  have hor : b1 = true ∨ (b1 = false ∧ b2 = true) := by
    subst hb1; subst hb2
    simp only [decide_eq_true_eq, decide_eq_false_iff_not]
    omega
  clear h hk
  rcases hor with rfl | ⟨rfl, rfl⟩ <;>
  · go_enter Tryd.func26, Tryd.ntmps26
    go_wp2_with fail
    go_ret2
    exact ⟨rfl, Far.refl _ _⟩
set_option maxRecDepth 100000 in
set_option maxHeartbeats 4000000 in
theorem rgiven_yes (h : Rf w base Br O cap rb n H G) (hH : H.length ≤ 1000) (q : Nat) (hq : q < 4 * n) : Calls Tryd.prog 26 #[ptr Br, .int .i64 (q : Int)] w fun e w' => e = .returned (.tuple #[.int .i64 ((G q).getD 0), .bool (G q).isSome]) ∧ Far (fun _ => False) w w' := by
  have hB := lt_of_blk h.st
  have hO : O < w.heap.size := by obtain ⟨_, ho, _⟩ := h.out; exact lt_of_blk ho
  have hR := lt_of_blk (h.row H.length (Nat.le_refl _))
  have c0 : w.cell? ⟨Br, 0, none⟩ = some (.int .i64 n) := row_cell h.st 0
  have c1 : w.cell? ⟨Br, 1, none⟩ = some (.slice (some ⟨O, 0, none⟩) (H.length + 1) cap) := row_cell h.st 1
  have cO := h.cellO H.length (Nat.le_refl _)
  have r0 := (h.cellR H.length q (Nat.le_refl _) hq).1
  have r1 := (h.cellR H.length q (Nat.le_refl _) hq).2
  rw [full_last, Nat.mul_comm 2 q] at r0 r1
  obtain ⟨L, hL⟩ : ∃ L, H.length = L := ⟨_, rfl⟩
  rw [hL] at c1 cO hH r0 r1 hR
  have a1 := fun o => (World.cell?_alloc_lt w o ⟨Br, 1, none⟩ hB).trans c1
  have aO := fun o => (World.cell?_alloc_lt w o ⟨O, L, none⟩ hO).trans cO
  have a2 := fun o => (World.cell?_alloc_lt w o ⟨rb L, q * 2, none⟩ hR).trans r0
  have a3 := fun o => (World.cell?_alloc_lt w o ⟨rb L, q * 2 + 1, none⟩ hR).trans r1
  obtain ⟨x, hx⟩ : ∃ x, (G q).getD 0 = x := ⟨_, rfl⟩
  obtain ⟨b, hb⟩ : ∃ b, (G q).isSome = b := ⟨_, rfl⟩
  rw [hx] at r0 a2 ⊢
  rw [hb] at r1 a3 ⊢
  have hn16 := h.n16
  have hq1 : (q : Int) < 4 * (n : Int) := by omega
  have hq0 : (0 : Int) ≤ q := by omega
  have hd1 : decide ((q : Int) < 0) = false := decide_eq_false (by omega)
  have hd2 : decide (4 * (n : Int) ≤ q) = false := decide_eq_false (by omega)
  have HF := hide (fun o => (Far.refl (fun _ => False) w).alloc o)
  clear h hL hx hb hB hO hR
  go_enter Tryd.func26, Tryd.ntmps26
  go_wp2_with fail
  go_region
  go_wp2_with fail
  go_quiet (fail)
  go_wp2_with fail
  go_ret2
  have F := HF.out (.cells #[.int .i64 x, .bool b] 36)
  exact ⟨rfl, ⟨F.os, F.tape, F.output, F.size, F.block⟩⟩
theorem link_cases (n : Nat) (d s h : Int) (hn : 4 ≤ n) (hn' : n ≤ 16) (hd : 0 ≤ d) : Rg.link n d s h = -1 ∨ ((h = 1 ∨ h = 2) ∧ 0 ≤ Rg.link n d s h ∧ Rg.link n d s h < 4 * n ∧ Rg.link n d s h % 2 + 1 = h) := by
  unfold Rg.link
  cases hc : (Rg.ringB n d && Rg.nodeB n s && Rg.hopB h) with
  | false => exact .inl rfl
  | true =>
    simp only [Bool.and_eq_true] at hc
    obtain ⟨⟨h1, h2⟩, h3⟩ := hc
    obtain ⟨_, _, h1⟩ := ring_out h1
    obtain ⟨h2, h2'⟩ := node_out h2
    have h3 : h = 1 ∨ h = 2 := by simpa [Rg.hopB] using h3
    simp only [if_true]
    exact .inr ⟨h3, by omega, by omega, by omega⟩
set_option maxRecDepth 100000 in
set_option maxHeartbeats 4000000 in
theorem rhere_any (h : Rf w base Br O cap rb n H G) (hH : H.length ≤ 1000) (d a hp : Int) (hd : 0 ≤ d) : Calls Tryd.prog 24 #[ptr Br, .int .u8 d, .int .i64 a, .int .i64 hp] w fun e w' => e = .returned (.tuple #[.int .i64 ((here n H d a hp).getD 0), .bool (here n H d a hp).isSome]) ∧ ∃ m, w' = w.drewN m := by
  have c0 : w.cell? ⟨Br, 0, none⟩ = some (.int .i64 n) := row_cell h.st 0
  have c1 : w.cell? ⟨Br, 1, none⟩ = some (.slice (some ⟨O, 0, none⟩) (H.length + 1) cap) := row_cell h.st 1
  have S1 := hide (fun m => rsrc_any n d a hp (w.drewN m) hd)
  have S2 := hide (fun m => rlink_any n d (Rg.src n d a hp) hp (w.drewN m) hd)
  obtain ⟨s, hs⟩ : ∃ s, Rg.src n d a hp = s := ⟨_, rfl⟩
  rw [hs] at S1 S2
  have lc := link_cases n d s hp h.n4 h.n16 hd
  obtain ⟨k, hk⟩ : ∃ k, Rg.link n d s hp = k := ⟨_, rfl⟩
  rw [hk] at S2 lc
  have e0 : here n H d a hp = if inB n k then past H (hop k.toNat - 1) k else none := by unfold here; rw [hs, hk]
  obtain ⟨L, hL⟩ : ∃ L, H.length = L := ⟨_, rfl⟩
  rw [hL] at c1 hH
  have hn16 := h.n16
  rcases lc with rfl | ⟨l1, l2, l3, l4⟩
  · rw [e0, show inB n (-1) = false from rfl]
    simp only [Bool.false_eq_true, if_false, Option.getD_none, Option.isSome_none]
    clear h e0 hs hk hL
    go_enter Tryd.func24, Tryd.ntmps24
    go_wp2_with fail
    go_quiet ((first | (go_at_call 36; exact Calls.quiet_of_same (flipw (S1.out _))) | (go_at_call 38; exact Calls.quiet_of_same (flipw (S2.out _)))))
    go_wp2_with fail
    go_ret2
    exact ⟨rfl, _, rfl⟩
  · obtain ⟨q, hq⟩ : ∃ q : Nat, k = (q : Int) := ⟨k.toNat, by omega⟩
    subst hq
    have hin : inB n (q : Int) = true := (inB_iff n _).2 ⟨l2, l3⟩
    obtain ⟨p, hp'⟩ : ∃ p : Nat, hp = (p : Int) + 1 := ⟨(hp - 1).toNat, by omega⟩
    subst hp'
    have e1 : here n H d a ((p : Int) + 1) = past H p q := by
      rw [e0, hin]
      simp only [if_true]
      congr 1
      unfold hop
      omega
    rw [e1]
    have hd1 : decide ((q : Int) < 0) = false := decide_eq_false (by omega)
    have hp0 : (0 : Int) ≤ p := by omega
    have hp2 : (p : Int) ≤ 1 := by omega
    by_cases hlt : L < p + 1
    · have en : past H p q = none := by
        unfold past
        rw [List.getElem?_eq_none (by omega)]
        rfl
      rw [en]
      simp only [Option.getD_none, Option.isSome_none]
      have hd2 : (L : Int) - ((p : Int) + 1) < 0 := by omega
      clear h e0 hs hk hL e1 en hin l1
      go_enter Tryd.func24, Tryd.ntmps24
      go_wp2_with fail
      go_quiet ((first | (go_at_call 36; exact Calls.quiet_of_same (flipw (S1.out _))) | (go_at_call 38; exact Calls.quiet_of_same (flipw (S2.out _)))))
      go_wp2_with fail
      go_ret2
      exact ⟨rfl, _, rfl⟩
    · obtain ⟨i, hi⟩ : ∃ i : Nat, L = i + (p + 1) := ⟨L - (p + 1), by omega⟩
      have hil : i ≤ H.length := by omega
      have cO := h.cellO i hil
      have r0 := (h.cellR i q hil (by omega)).1
      have r1 := (h.cellR i q hil (by omega)).2
      have ef : full H G i q = past H p q := by
        unfold full
        rw [hL, show L - i = p + 1 from by omega, past_succ]
      rw [ef, Nat.mul_comm 2 q] at r0 r1
      obtain ⟨x, hx⟩ : ∃ x, (past H p q).getD 0 = x := ⟨_, rfl⟩
      obtain ⟨b, hb⟩ : ∃ b, (past H p q).isSome = b := ⟨_, rfl⟩
      rw [hx] at r0 ⊢
      rw [hb] at r1 ⊢
      have hq1 : (q : Int) < 4 * (n : Int) := by omega
      have hd2 : (L : Int) - ((p : Int) + 1) = (i : Int) := by omega
      have hi0 : (0 : Int) ≤ i := by omega
      have hi1 : (i : Int) < (L : Int) + 1 := by omega
      have hd3 : decide ((i : Int) < 0) = false := decide_eq_false (by omega)
      clear h e0 hs hk hL e1 ef hin l1 hx hb hi hil
      go_enter Tryd.func24, Tryd.ntmps24
      go_wp2_with fail
      go_quiet ((first | (go_at_call 36; exact Calls.quiet_of_same (flipw (S1.out _))) | (go_at_call 38; exact Calls.quiet_of_same (flipw (S2.out _)))))
      go_wp2_with fail
      go_quiet (fail)
      go_wp2_with fail
      go_ret2
      exact ⟨rfl, _, by rw [World.drewN_drewN]⟩
end
end Wr
end Go.Proofs.YtbniijmabebhoaaDoor
