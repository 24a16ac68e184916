/- The program's sum of whatever parts. -/
import Derived.Test.YtlbnikmaafccnaaSumsAdd
namespace Go.Proofs.Ytlbnikmaafccnaa
open Go.RowKit Sm
set_option linter.unusedVariables false
theorem below_of_far {a b : World} (h : Far (fun _ => False) a b) : Below a.heap.size a b := ⟨h.os, h.tape, h.output, h.size, fun k hk => h.block k hk (fun e => e)⟩
theorem far_of_below {a b : World} (h : Below a.heap.size a b) : Far (fun _ => False) a b := ⟨h.os, h.tape, h.output, h.size, fun k hk _ => h.block k hk⟩
theorem cell_far {S : Nat → Prop} {w w' : World} (h : Far S w w') {p : Addr} {u : Value} (hc : w.cell? p = some u) (hn : ¬ S p.block) : w'.cell? p = some u :=
  (World.cell?_of_block (h.block p.block (lt_of_cell hc) hn)).trans hc
/-- A byte, as a cell. -/
def bv (b : Nat) : Value := .int .u8 (b : Int)
/-- Bytes within their kind. -/
def By (bs : List Nat) : Prop := ∀ b ∈ bs, b < 256
/-- The address A leads to slices that read as the lists pss. -/
def Parts (w : World) (A : Option Addr) (pss : List (List Nat)) : Prop :=
  ∀ (i : Nat) (bs : List Nat), pss[i]? = some bs → ∃ ad Ai ci, A = some ad ∧ w.cell? (ad.add i) = some (.slice Ai bs.length ci) ∧ (ad.add i).block < w.heap.size ∧ Sl w w.heap.size Ai (bs.map bv) ∧ By bs ∧ bs.length ≤ maxLen
theorem bv_at {bs : List Nat} {j : Nat} (h : j < bs.length) : (bs.map bv)[j]'(by simpa using h) = .int .u8 ((bs[j] : Nat) : Int) := by simp [bv]
theorem ones_xor (s : Nat) (hs : s < 4294967296) : 4294967295 ^^^ s = 4294967295 - s := by
  refine bits_ext (xor_lt _ _ (by decide) hs) (by omega) fun j hj => ?_
  have h1 := Nat.testBit_two_pow_sub_succ (n := 32) (x := s) hs j
  rw [show 2 ^ 32 - (s + 1) = 4294967295 - s from by omega] at h1
  have h2 : ∀ t, t < 32 → Nat.testBit 4294967295 t = true := by decide
  rw [Nat.testBit_xor, h1, h2 j hj]
  simp [hj]
theorem not_u32 (s : Nat) (hs : s < 4294967296) : bits .xor .u32 IntKind.u32.max (s : Int) = ((4294967295 - s : Nat) : Int) := by
  have h := u32_xor_nat 4294967295 s (by decide) hs
  rw [ones_xor s hs] at h
  exact h
theorem crc_flat (r : Nat) (pss : List (List Nat)) (k : Nat) (h : k < pss.length) : crc r (pss.take (k + 1)).flatten = crc (crc r (pss.take k).flatten) (pss[k]) := by
  rw [List.take_succ_eq_append_getElem h, List.flatten_append, crc_append]
  simp
theorem crc_take (r : Nat) (bs : List Nat) (k : Nat) (h : k < bs.length) : crc r (bs.take (k + 1)) = feed (crc r (bs.take k)) bs[k] := by
  rw [List.take_succ_eq_append_getElem h, crc_append, crc_cons]
  simp only [crc, List.foldl_nil]
theorem by_take {bs : List Nat} (h : By bs) (k : Nat) : By (bs.take k) := fun b hb => h b (List.mem_of_mem_take hb)
set_option maxRecDepth 100000 in
set_option maxHeartbeats 4000000 in
theorem of_any (A : Option Addr) (n c : Nat) (pss : List (List Nat)) (w : World) (hn : pss.length = n) (hn' : n ≤ 1000) (hP : Parts w A pss) :
    Calls Try.prog 33 #[.slice A n c] w fun e w' => e = .returned (.int .u32 (ofV pss.flatten)) ∧ Below w.heap.size w w' := by
  have HN := hide hn
  have HP := hide hP
  have hby : ∀ k, By (pss.take k).flatten := fun k b hb => by
    obtain ⟨bs, hbs, hb⟩ := List.mem_flatten.1 hb
    obtain ⟨i, hi, rfl⟩ := List.mem_iff_getElem.1 (List.mem_of_mem_take hbs)
    obtain ⟨_, _, _, _, _, _, _, h, _⟩ := hP i _ (List.getElem?_eq_getElem hi)
    exact h b hb
  have HY := hide hby
  clear hn hP hby
  have K0 := hide (heap_alloc_new w (.cells #[.int .u32 4294967295] 88))
  have F0 := hide (((Far.refl (fun k => k = w.heap.size) w).alloc (.cells #[.int .u32 4294967295] 88)))
  obtain ⟨B, hB⟩ : ∃ B, w.heap.size = B := ⟨_, rfl⟩
  rw [hB] at K0 F0
  have HB := hide hB
  go_enter Try.func33, Try.ntmps33
  go_wp2_with fail
  go_loopg [12] n (fun gk i wr => ∃ (k s : Nat), gk + k = n ∧ i = .int .i64 k ∧ s < 4294967296 ∧ Hid (s = crc ones (pss.take k).flatten) ∧ Hid (wr.heap[B]? = some (.cells #[.int .u32 s] 88 (0, 0))) ∧ Hid (Far (fun k => k = B) w wr))
  case atStart => exact ⟨0, 4294967295, rfl, rfl, by omega, rfl, K0, F0⟩
  case round =>
    obtain ⟨k, s, hgk, rfl, hs, E, K, F⟩ := hrel
    clear K0 F0
    obtain ⟨go, hgo⟩ : ∃ x, x = gk := ⟨_, rfl⟩
    obtain ⟨w1, hw1⟩ : ∃ x, x = wr := ⟨_, rfl⟩
    subst hw1
    by_cases hlt : k < n
    · have hkl : k < pss.length := by have := HN.out; omega
      obtain ⟨ad, Ai, ci, rfl, hc, hbl, hsl, hb, hm⟩ := HP.out k _ (List.getElem?_eq_getElem hkl)
      have hcf := hide (crc_flat ones pss k hkl)
      obtain ⟨bs, hbs⟩ : ∃ bs, pss[k] = bs := ⟨_, rfl⟩
      rw [hbs] at hc hsl hb hm hcf
      clear hbs
      obtain ⟨m, hmm⟩ : ∃ m, bs.length = m := ⟨_, rfl⟩
      rw [hmm] at hc hm
      unfold maxLen at hm
      have HM := hide hmm
      have HSL := hide hsl
      have HBY := hide hb
      clear hmm hsl hb
      have c1 := cell_far F.out hc (fun e => by have := HB.out; omega)
      clear hc
      have hz : (0 : Int) ≤ k := by omega
      have hz' : (k : Int) < n := by omega
      have hdk : decide ((k : Int) < n) = true := decide_eq_true (by omega)
      go_wp2_with fail
      clear c1
      go_loopg [18] m (fun gk j wr => ∃ (q t : Nat), gk + q = m ∧ j = .int .i64 q ∧ t < 4294967296 ∧ Hid (t = crc s (bs.take q)) ∧ Hid (wr.heap[B]? = some (.cells #[.int .u32 t] 88 (0, 0))) ∧ Hid (Far (fun k => k = B) w wr))
      case atStart => exact ⟨0, s, rfl, rfl, hs, by simp [Hid, crc], K, F⟩
      case round =>
        obtain ⟨q, t, hgq, rfl, ht, E2, K2, F2⟩ := hrel
        by_cases hlt2 : q < m
        · have hql : q < bs.length := by rw [HM.out]; exact hlt2
          obtain ⟨ad2, rfl, hb2, hc2⟩ := HSL.out.at_ (k := q) (by simpa using hql)
          rw [bv_at hql] at hc2
          have hbq := HBY.out _ (List.getElem_mem hql)
          have hct := hide (crc_take s bs q hql)
          obtain ⟨b, hbb⟩ : ∃ b, bs[q] = b := ⟨_, rfl⟩
          rw [hbb] at hc2 hbq hct
          clear hbb
          have c2 := cell_far F2.out hc2 (fun e => by have := HB.out; rw [add_block] at e; omega)
          clear hc2
          have hy : (0 : Int) ≤ q := by omega
          have hy' : (q : Int) < m := by omega
          have hfl := feed_lt t b ht hbq
          have HE := hide (show feed t b = crc s (bs.take (q + 1)) from by rw [hct.out, E2.out])
          go_wp2_with (go_at_call 47; refine (add_any B t b _ ht hbq K2.out).mono ?_; rintro e w5 ⟨rfl, K5, F5⟩; have K5 := hide K5; have F5 := hide (F2.out.trans F5))
          go_roundg (gk - 1)
          case measure => omega
          case rel => exact ⟨q + 1, feed t b, by omega, by go_num, hfl, HE, K5, F5⟩
        · obtain rfl : q = m := by omega
          have HE := hide (show t = crc ones (pss.take (k + 1)).flatten from by rw [hcf.out, ← E.out, E2.out, List.take_of_length_le (by rw [HM.out]; exact Nat.le_refl _)])
          go_wp2_with fail
          go_roundg (go - 1)
          case measure => omega
          case rel => exact ⟨k + 1, t, by omega, by go_num, ht, HE, K2, F2⟩
    · obtain rfl : k = n := by omega
      have c0 : w1.cell? ⟨B, 0, none⟩ = some (.int .u32 s) := row_cell K.out 0
      have e4 : bits .xor .u32 IntKind.u32.max (s : Int) = (ofV pss.flatten : Nat) := by
        rw [not_u32 s hs]
        congr 1
        have h := E.out
        rw [List.take_of_length_le (by rw [HN.out]; exact Nat.le_refl _)] at h
        unfold ofV
        rw [← h]
        rfl
      have HB2 := hide (show Below B w w1 from ⟨F.out.os, F.out.tape, F.out.output, by have := F.out.size; have := HB.out; omega, fun k hk => F.out.block k (by have := HB.out; omega) (fun e => by omega)⟩)
      go_wp2_with fail
      go_ret
      exact ⟨rfl, HB2.out⟩
end Go.Proofs.Ytlbnikmaafccnaa
