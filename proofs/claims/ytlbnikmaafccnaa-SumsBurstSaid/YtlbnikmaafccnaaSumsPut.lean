/- The library's slices.Grow, Concat and Clip on bytes; the program's Put. -/
import Derived.Test.YtlbnikmaafccnaaSumsOf
import Derived.Deep.AppendLies
namespace Go.Proofs.Ytlbnikmaafccnaa
open Go.RowKit Sm
set_option linter.unusedVariables false
theorem info5 : (Try.prog.info? 5).map (fun i => (i.zero, i.size, i.bytes)) = some (some (.int .u8 0), 1, 1) := by kernel_rfl
section
variable {P : Program} (w : World)
/-- append of n zeros, none of them written out, onto nil. -/
theorem run_append_zeros (t u ty e : TypeId) (i : TypeInfo) (z : Value) (ht : P.underlying t = some (.slice e)) (hu : P.underlying u = some (.int .i64)) (hi : P.info? e = some i) (hz : i.zero = some z)
    (hsz : i.size = 1) (hzs : z.cells.size = 1) (hby : i.bytes = 1) (n : Nat) (h0 : 0 < n) (h48 : n ≤ 1000000) :
    (Builtin.append_ #[t, u] ty #[.slice none 0 0, .int .i64 n]).run P w =
      .ok (.slice (some ⟨w.heap.size, 0, none⟩) n (grownCap w n 0 e)) (w.drew.alloc (.cells (Builtin.zeroCells z.cells n ++ Builtin.zeroCells z.cells (grownCap w n 0 e - n)) e)) := by
  have hn : n ≠ 0 := by omega
  have hw : IntKind.i64.wrap (n : Int) = n := IntWalk.i64_in _ (by omega)
  have h1 : ¬ ((n : Int) < 0) := by omega
  have h2 : ¬ (281474976710656 < (n : Int)) := by omega
  have h63' : ¬ (9223372036854775807 < (n : Int)) := by omega
  have h48' : ¬ (281474976710656 < Builtin.nextslicecap n 0) := by rw [nextslicecap_zero h0]; omega
  simp [Builtin.append_, run_underlying ht, run_underlying hu, sizeOf, typeInfo, zeroValue, hi, hz, hsz, hby, Builtin.lenOf, hn, hw, h1, h2, h63', h48', asInt, asIntOf, Question.forced, run_firstCells_none, newRow, grownCap]
end

section
variable {P : Program}
theorem wpList_append_zeros {ops : Array Oper} {rest : List Oper} {o : Oper} {a : Act} {w : World} {Q : Exit → Act → World → Prop} (hgd : o.guard = none) (s x : Operand) (t u : TypeId)
    (ho : o.op = .call { callee := .builtin .append, args := #[s, x], argTypes := #[t, u] })
    (e : TypeId) (i : TypeInfo) (z : Value) (ht : P.underlying t = some (.slice e)) (hu : P.underlying u = some (.int .i64)) (hi : P.info? e = some i) (hz : i.zero = some z)
    (hsz : i.size = 1) (hzs : z.cells.size = 1) (hby : i.bytes = 1) (n : Nat) (h0 : 0 < n) (h48 : n ≤ 1000000) (hs : a.eval s = .slice none 0 0) (hx : a.eval x = .int .i64 n)
    (h : ∀ cap w', n ≤ cap → cap ≤ maxLen → w'.ownsRow w.heap.size e 1 (.slice (some ⟨w.heap.size, 0, none⟩) 0 cap) 0 [] → Below w.heap.size w w' → wpList P ops Q rest (a.put o.dst (.slice (some ⟨w.heap.size, 0, none⟩) n cap)) w') : wpList P ops Q (o :: rest) a w :=
  wpList_plain hgd fun K hK => by
    have hr := run_append_zeros (P := P) w t u o.type e i z ht hu hi hz hsz hzs hby n h0 h48
    unfold Oper.wp execOp
    simp only [ho, resolve, invoke, builtin, Sem.run_bind, Sem.run_pure, Result.andThen_ok, List.map_toArray, List.map_cons, List.map_nil, hs, hx, hr]
    have hge := grownCap_ge w n 0 e
    have hle := grownCap_le_maxLen w n 0 e (by unfold maxLen; omega)
    refine hK _ _ (h _ _ hge hle ⟨rfl, .inr ⟨w.heap.size, _, _, rfl, Nat.le_refl _, heap_alloc_new w.drew _, Nat.zero_le _, hle, ?_, by simp⟩⟩ (((Below.refl _ _).alloc (Nat.le_refl _) _).drew))
    simp only [Array.size_append, size_zeroCells, hzs]
    omega
end
theorem grow_none (w : World) : Calls Try.prog 52 #[.slice none 0 0, .int .i64 0] w fun e w' => e = .returned (.slice none 0 0) ∧ w = w' := by
  go_enter Try.func52, Try.ntmps52
  go_wp2
  go_ret
  exact ⟨rfl, rfl⟩
set_option maxHeartbeats 1000000 in
theorem grow_some (n : Nat) (w : World) (h0 : 0 < n) (hn : n ≤ 1000000) : Calls Try.prog 52 #[.slice none 0 0, .int .i64 n] w fun e w' => (∃ v, e = .returned v ∧ w'.ownsRow w.heap.size 5 1 v 0 []) ∧ Below w.heap.size w w' := by
  obtain ⟨i0, hi, hz0, hz1, hz2⟩ := info_parts info5
  have h1 : (0 : Int) < n := by omega
  go_enter Try.func52, Try.ntmps52
  go_wp2_with (refine wpList_append_zeros rfl _ _ 63 3 rfl 5 i0 (.int .u8 0) Try.underlying63 Try.underlying3 hi hz0 hz1 rfl hz2 n h0 hn rfl rfl ?_; intro cap w1 hc hcm hown hb; have HO := hide hown; have HB := hide hb; clear hown hb; unfold maxLen at hcm)
  go_ret
  exact ⟨⟨_, rfl, HO.out⟩, HB.out⟩
theorem grow_any (n : Nat) (w : World) (hn : n ≤ 1000000) : Calls Try.prog 52 #[.slice none 0 0, .int .i64 n] w fun e w' => (∃ v, e = .returned v ∧ w'.ownsRow w.heap.size 5 1 v 0 []) ∧ Below w.heap.size w w' := by
  rcases Nat.eq_zero_or_pos n with rfl | h
  · exact (grow_none w).mono fun e w' ⟨he, hw⟩ => ⟨⟨_, he, World.ownsRow_nil _ _ _ _⟩, hw ▸ Below.refl _ _⟩
  · exact grow_some n w h hn
theorem flat_len (pss : List (List Nat)) (k : Nat) (h : k < pss.length) : (pss.take (k + 1)).flatten.length = (pss.take k).flatten.length + (pss[k]).length := by
  rw [List.take_succ_eq_append_getElem h, List.flatten_append]
  simp
theorem flat_app (pss : List (List Nat)) (k : Nat) (h : k < pss.length) : (pss.take (k + 1)).flatten = (pss.take k).flatten ++ pss[k] := by
  rw [List.take_succ_eq_append_getElem h, List.flatten_append]
  simp
theorem flat_le (pss : List (List Nat)) (k : Nat) : (pss.take k).flatten.length ≤ pss.flatten.length := by
  conv => rhs; rw [← List.take_append_drop k pss, List.flatten_append, List.length_append]
  omega
theorem one_bv (bs : List Nat) : ∀ u ∈ bs.map bv, u.oneCell' = true := by
  intro u hu
  obtain ⟨b, _, rfl⟩ := List.mem_map.1 hu
  rfl
set_option maxRecDepth 100000 in
set_option maxHeartbeats 4000000 in
theorem concat_any (A : Option Addr) (n c : Nat) (pss : List (List Nat)) (w : World) (hn : pss.length = n) (hn' : n ≤ 1000) (hP : Parts w A pss) (hT : pss.flatten.length ≤ 100000) :
    Calls Try.prog 45 #[.slice A n c] w fun e w' => (∃ v, e = .returned v ∧ w'.ownsRow w.heap.size 5 1 v pss.flatten.length (pss.flatten.map bv)) ∧ Below w.heap.size w w' := by
  obtain ⟨i0, hi, hz0, hz1, hz2⟩ := info_parts info5
  have HN := hide hn
  have HP := hide hP
  have HT := hide hT
  clear hn hP hT
  go_enter Try.func45, Try.ntmps45
  go_wp2_with fail
  go_loop [3, 11] (fun t i => ∃ k : Nat, k ≤ n ∧ i = .int .i64 k ∧ t = .int .i64 ((pss.take k).flatten.length : Nat)) (fun _ i => n - (intOf i).toNat)
  case atStart => exact ⟨0, Nat.zero_le _, rfl, by simp⟩
  case round =>
    obtain ⟨k, hk, rfl, rfl⟩ := hrel
    by_cases hlt : k < n
    · have hkl : k < pss.length := by have := HN.out; omega
      obtain ⟨ad, Ai, ci, rfl, hc, hbl, hsl, hb, hm⟩ := HP.out k _ (List.getElem?_eq_getElem hkl)
      have hfl := flat_len pss k hkl
      have hfle := flat_le pss (k + 1)
      have hT := HT.out
      obtain ⟨bs, hbs⟩ : ∃ bs, pss[k] = bs := ⟨_, rfl⟩
      rw [hbs] at hc hm hfl
      clear hbs hsl hb
      obtain ⟨m, hmm⟩ : ∃ m, bs.length = m := ⟨_, rfl⟩
      rw [hmm] at hc hm hfl
      unfold maxLen at hm
      obtain ⟨l, hl⟩ : ∃ l, (pss.take k).flatten.length = l := ⟨_, rfl⟩
      obtain ⟨l', hl'⟩ : ∃ l', (pss.take (k + 1)).flatten.length = l' := ⟨_, rfl⟩
      rw [hl] at hfl ⊢
      rw [hl'] at hfl hfle
      have hlb : l + m ≤ 100000 := by omega
      have HL := hide (show l + m = (pss.take (k + 1)).flatten.length from by rw [hl']; exact hfl.symm)
      clear hl hl' hfl hfle hT hmm
      have hz : (0 : Int) ≤ k := by omega
      have hz' : (k : Int) < n := by omega
      go_wp2_with fail
      go_round
      case rel => exact ⟨k + 1, by omega, by go_num, by rw [← HL.out]; go_num⟩
      case measure => simp [intOf]; omega
    · obtain rfl : k = n := by omega
      have hfe : (pss.take k).flatten.length = pss.flatten.length := by rw [List.take_of_length_le (by rw [HN.out]; exact Nat.le_refl _)]
      rw [hfe]
      clear hfe
      have hT := HT.out
      obtain ⟨l, hl⟩ : ∃ l, pss.flatten.length = l := ⟨_, rfl⟩
      rw [hl] at hT ⊢
      have HL := hide hl
      clear hl
      go_wp2_with fail
      refine (grow_any l w (by omega)).mono ?_
      rintro e w1 ⟨⟨v1, rfl, ho⟩, hb⟩
      have HO := hide ho
      have HB := hide hb
      clear ho hb
      go_wp2_with fail
      go_loopw [6, 27] (fun v i wr => ∃ q : Nat, q ≤ k ∧ i = .int .i64 q ∧ Hid (wr.ownsRow w.heap.size 5 1 v (pss.take q).flatten.length ((pss.take q).flatten.map bv)) ∧ Hid (Below w.heap.size w wr)) (fun _ i _ => k - (intOf i).toNat)
      case atStart => exact ⟨0, Nat.zero_le _, rfl, HO, HB⟩
      case round =>
        obtain ⟨q, hq, rfl, HO2, HB2⟩ := hrel
        clear HO HB
        by_cases hlt2 : q < k
        · have hkl : q < pss.length := by have := HN.out; omega
          obtain ⟨ad, Ai, ci, rfl, hc, hbl, hsl, hb, hm⟩ := HP.out q _ (List.getElem?_eq_getElem hkl)
          have hfa := flat_app pss q hkl
          have hfle := flat_le pss (q + 1)
          rw [hfa, List.length_append] at hfle
          obtain ⟨bs, hbs⟩ : ∃ bs, pss[q] = bs := ⟨_, rfl⟩
          rw [hbs] at hc hm hfa hfle hsl
          clear hbs hb
          obtain ⟨m, hmm⟩ : ∃ m, bs.length = m := ⟨_, rfl⟩
          rw [hmm] at hc hm hfle
          unfold maxLen at hm
          obtain ⟨l', hl'⟩ : ∃ l', (pss.take q).flatten.length = l' := ⟨_, rfl⟩
          have HFA := hide hfa
          have HMM := hide hmm
          have HLL := hide hl'
          rw [hl'] at hfle HO2
          have hlb : l' + m ≤ 100000 := by have := HT.out; omega
          have hzs := HB2.out.size
          have c1 := (HB2.out.cell hbl).trans hc
          have HS := hide ((hsl.below HB2.out).more hzs)
          clear hc hsl hfa hmm hl' hfle
          have hz : (0 : Int) ≤ q := by omega
          have hz' : (q : Int) < k := by omega
          go_wp2_with (at_builtin; refine wpList_append_sl _ rfl _ _ 63 rfl w.heap.size 5 i0 (.int .u8 0) 1 1 Try.underlying63 hi hz0 hz1 hz2 rfl (by decide) _ l' ((pss.take q).flatten.map bv) rfl HO2.out _ Ai m ci (bs.map bv) rfl (by rw [List.length_map, HMM.out, Nat.mul_one]) HS.out (one_bv _) (by unfold maxLen; omega) (by omega) (by omega) ?_; intro v1 w5 hown1 hg1 hat1)
          have HO3 := hide (show w5.ownsRow w.heap.size 5 1 v1 (pss.take (q + 1)).flatten.length ((pss.take (q + 1)).flatten.map bv) from by
            rw [HFA.out, List.length_append, HLL.out, HMM.out, List.map_append]
            exact hown1)
          have HB3 := hide (HB2.out.grown hg1 (by omega) (fun g hg => (World.ownsRow.lt HO2.out g hg).1))
          clear hown1 hg1 hat1
          go_roundw
          case rel => exact ⟨q + 1, by omega, by go_num, HO3, HB3⟩
          case measure => simp [intOf]; omega
        · obtain rfl : q = k := by omega
          have HO3 := hide (show wr.ownsRow w.heap.size 5 1 _ pss.flatten.length (pss.flatten.map bv) from by
            have := HO2.out
            rw [List.take_of_length_le (by rw [HN.out]; exact Nat.le_refl _)] at this
            exact this)
          go_wp2_with fail
          go_ret
          exact ⟨⟨_, rfl, HO3.out⟩, HB2.out⟩
theorem clip_b (A : Option Addr) (n c : Nat) (w : World) (hc : n ≤ c) (hm : c ≤ maxLen) : Calls Try.prog 46 #[.slice A n c] w fun e w' => e = .returned (.slice A n n) ∧ w = w' := by
  unfold maxLen at hm
  have h1 : (n : Int) ≤ c := by omega
  go_enter Try.func46, Try.ntmps46
  go_wp2
  go_ret
  exact ⟨rfl, rfl⟩
/-- The sum's bytes, the greatest first. -/
def sumB (s : Nat) : List Nat := [s / 16777216, s / 65536 % 256, s / 256 % 256, s % 256]
/-- What Put hands back. -/
def putV (bs : List Nat) : List Nat := bs ++ sumB (ofV bs)
/-- A slice of bytes in memory from base on. -/
def ByRow (w : World) (base : Nat) (A : Option Addr) (bs : List Nat) : Prop :=
  (A = none ∧ bs = []) ∨ ∃ g cur, A = some ⟨g, 0, none⟩ ∧ base ≤ g ∧ w.heap[g]? = some (.cells cur 5 (0, 0)) ∧ bs.length ≤ cur.size ∧ cur.toList.take bs.length = bs.map bv
theorem ByRow.far {S : Nat → Prop} {w w' : World} {base : Nat} {A : Option Addr} {bs : List Nat} (h : ByRow w base A bs) (hf : Far S w w') (hn : ∀ g, A = some ⟨g, 0, none⟩ → ¬ S g) : ByRow w' base A bs := by
  rcases h with h | ⟨g, cur, e, h1, h2, h3⟩
  · exact .inl h
  · exact .inr ⟨g, cur, e, h1, (hf.block g (lt_of_blk h2) (hn g e)).trans h2, h3⟩
theorem ByRow.sl {w : World} {base : Nat} {A : Option Addr} {bs : List Nat} (h : ByRow w base A bs) : Sl w w.heap.size A (bs.map bv) := by
  rcases h with ⟨rfl, rfl⟩ | ⟨g, cur, rfl, h1, h2, h3, h4⟩
  · exact Sl.nil
  · intro k u hu
    refine ⟨_, rfl, lt_of_blk h2, ?_⟩
    have e : (⟨g, 0, none⟩ : Addr).add k = ⟨g, k, none⟩ := by unfold Addr.add; split <;> simp_all
    rw [e, row_cell h2 k, ← hu, ← h4]
    have hk : k < bs.length := by have := (List.getElem?_eq_some_iff.1 hu).1; simpa using this
    rw [List.getElem?_take, if_pos hk]
    simp
theorem own_by {w : World} {base n : Nat} {v : Value} {bs : List Nat} (h : w.ownsRow base 5 1 v n (bs.map bv)) (hn : bs.length = n) : ∃ A c, v = .slice A n c ∧ n ≤ c ∧ c ≤ maxLen ∧ ByRow w base A bs := by
  subst hn
  rcases h.2 with ⟨rfl, h0⟩ | ⟨g, cap, cur, rfl, hb, hg, hc, hm, hs, ht⟩
  · exact ⟨none, 0, by rw [h0], by omega, by omega, .inl ⟨rfl, List.eq_nil_of_length_eq_zero h0⟩⟩
  · exact ⟨_, cap, rfl, hc, hm, .inr ⟨g, cur, rfl, hb, hg, by omega, by simpa using ht⟩⟩
/-- One slice, as the parts of a call. -/
theorem parts_one {w : World} {g m c : Nat} {A : Option Addr} {bs : List Nat} (hm : bs.length = m) (hm' : m ≤ maxLen) (hc : w.cell? ⟨g, 0, none⟩ = some (.slice A m c)) (hs : Sl w w.heap.size A (bs.map bv)) (hb : By bs) : Parts w (some ⟨g, 0, none⟩) [bs] := by
  intro i xs hx
  match i, hx with
  | 0, hx =>
    simp at hx
    subst hx
    have e : (⟨g, 0, none⟩ : Addr).add 0 = ⟨g, 0, none⟩ := by unfold Addr.add; split <;> simp_all
    subst hm
    exact ⟨_, A, c, rfl, by rw [e]; exact hc, by rw [e]; exact lt_of_cell hc, hs, hb, hm'⟩
theorem own_below {w w' : World} {base n size : Nat} {e : TypeId} {v : Value} {xs : List Value} (h : w.ownsRow base e size v n xs) (hb : Below w.heap.size w w') : w'.ownsRow base e size v n xs := by
  refine ⟨h.1, ?_⟩
  rcases h.2 with h0 | ⟨g, cap, cur, e, hbg, hg, hr⟩
  · exact .inl h0
  · exact .inr ⟨g, cap, cur, e, hbg, (hb.block g (lt_of_blk hg)).trans hg, hr⟩
set_option maxRecDepth 100000 in
set_option maxHeartbeats 4000000 in
theorem put_any (A : Option Addr) (n c : Nat) (pss : List (List Nat)) (w : World) (hn : pss.length = n) (hn' : n ≤ 1000) (hP : Parts w A pss) (hT : pss.flatten.length ≤ 100000) :
    Calls Try.prog 32 #[.slice A n c] w fun e w' => (∃ A', e = .returned (.slice A' (putV pss.flatten).length (putV pss.flatten).length) ∧ ByRow w' w.heap.size A' (putV pss.flatten)) ∧ Below w.heap.size w w' := by
  obtain ⟨i0, hi, hz0, hz1, hz2⟩ := info_parts info5
  have CC := hide (concat_any A n c pss w hn hn' hP hT)
  have hby : By pss.flatten := fun b hb => by
    obtain ⟨bs, hbs, hb⟩ := List.mem_flatten.1 hb
    obtain ⟨i, hi, rfl⟩ := List.mem_iff_getElem.1 hbs
    obtain ⟨_, _, _, _, _, _, _, h, _⟩ := hP i _ (List.getElem?_eq_getElem hi)
    exact h b hb
  obtain ⟨bs, hbs⟩ : ∃ bs, pss.flatten = bs := ⟨_, rfl⟩
  rw [hbs] at CC hT hby ⊢
  clear hbs hn hP
  obtain ⟨m, hm⟩ : ∃ m, bs.length = m := ⟨_, rfl⟩
  rw [hm] at CC hT
  have HM := hide hm
  have HY := hide hby
  have hsl := ofV_lt bs
  obtain ⟨s, hs⟩ : ∃ s, ofV bs = s := ⟨_, rfl⟩
  have hlp : (putV bs).length = m + 4 := by unfold putV sumB; rw [List.length_append, hm]; rfl
  have hpv : (putV bs).map bv = bs.map bv ++ [.int .u8 ((s : Int) / 16777216), .int .u8 ((s : Int) / 65536 % 256), .int .u8 ((s : Int) / 256 % 256), .int .u8 ((s : Int) % 256)] := by
    unfold putV sumB; rw [hs]; simp [bv]
  rw [hlp]
  rw [hs] at hsl
  have HS := hide hs
  have HPV := hide hpv
  have HLP := hide hlp
  clear hm hby hs hpv hlp
  go_enter Try.func32, Try.ntmps32
  go_wp2_with fail
  refine CC.out.mono ?_
  rintro e w1 ⟨⟨v1, rfl, ho⟩, hb⟩
  obtain ⟨A1, c1, rfl, q1, q2, hr⟩ := own_by ho HM.out
  have HO := hide ho
  have HB := hide hb
  have HR := hide hr
  have hz := hb.size
  unfold maxLen at q2
  clear ho hb hr CC
  go_wp2_with fail
  have PP := hide (show Parts (w1.alloc (.cells #[.slice A1 m c1] 63)) (some ⟨w1.heap.size, 0, none⟩) [bs] from
    parts_one HM.out (by unfold maxLen; omega) (cell_new w1 #[.slice A1 m c1] 63 (0, 0) 0) ((HR.out.sl.alloc (Nat.le_refl _) _).more (by simp)) HY.out)
  refine (of_any _ 1 1 [bs] _ rfl (by omega) PP.out).mono ?_
  rintro e w2 ⟨rfl, hb2⟩
  rw [show [bs].flatten = bs from by simp, HS.out]
  have hz2' := hb2.size
  have hz2' : w1.heap.size + 1 ≤ w2.heap.size := by rw [alloc_size] at hz2'; exact hz2'
  have B12 := hide ((Below.alloc (Below.refl w1.heap.size w1) (Nat.le_refl _) (.cells #[.slice A1 m c1] 63)).trans (hb2.mono (by simp)))
  have HO2 := hide (own_below HO.out B12.out)
  have HB2 := hide (HB.out.trans (B12.out.mono hz))
  have hge := hide (fun g hg => (World.ownsRow.lt HO.out g hg).1)
  clear hb2 PP HR HO B12 HB
  go_wp2_with (at_builtin; refine wpList_append_sl _ rfl _ _ 63 rfl w.heap.size 5 i0 (.int .u8 0) 1 1 Try.underlying63 hi hz0 hz1 hz2 rfl (by decide) (.slice A1 m c1) m (bs.map bv) rfl (HO2.out.alloc _) _ (some ⟨w2.heap.size, 0, none⟩) 4 4 [.int .u8 ((s : Int) / 16777216), .int .u8 ((s : Int) / 65536 % 256), .int .u8 ((s : Int) / 256 % 256), .int .u8 ((s : Int) % 256)] rfl rfl (Sl.new' w2 #[.int .u8 ((s : Int) / 16777216), .int .u8 ((s : Int) / 65536 % 256), .int .u8 ((s : Int) / 256 % 256), .int .u8 ((s : Int) % 256)] 5 (0, 0) _ _ rfl rfl) (by simp [Value.oneCell']) (by unfold maxLen; omega) (by omega) (by simp; omega) ?_; intro v3 w3 hown3 hg3 hat3; rw [← HPV.out] at hown3; obtain ⟨A3, c3, hv3, k1, k2, k3⟩ := own_by hown3 HLP.out; have K2 := hide k2; have K3 := hide k3; have HB3 := hide ((HB2.out.alloc (by omega) (.cells #[.int .u8 ((s : Int) / 16777216), .int .u8 ((s : Int) / 65536 % 256), .int .u8 ((s : Int) / 256 % 256), .int .u8 ((s : Int) % 256)] 5)).grown hg3 (by simp; omega) hge.out); rw [hv3]; clear hown3 hg3 hat3 k2 k3 hv3)
  refine (clip_b A3 (m + 4) c3 _ k1 K2.out).mono ?_
  rintro e w4 ⟨rfl, rfl⟩
  go_wp2_with fail
  go_ret
  exact ⟨⟨A3, rfl, K3.out⟩, HB3.out⟩
end Go.Proofs.Ytlbnikmaafccnaa
