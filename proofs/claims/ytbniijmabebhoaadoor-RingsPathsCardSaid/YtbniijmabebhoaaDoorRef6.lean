/- The reference's Path: the contract, by the way that is left. -/
import Derived.Test.YtbniijmabebhoaaDoorRef5
import Derived.Test.YtbniijmabebhoaaDoorPath
namespace Go.Proofs.YtbniijmabebhoaaDoor
open Go.RowKit
set_option linter.unusedVariables false
theorem hop_of {h : Int} (q : Rg.hopB h = true) : h = 1 ∨ h = 2 := by simpa [Rg.hopB] using q
theorem own_sl {w : World} {base m : Nat} {v : Value} {xs : List Int} (h : w.ownsRow base 3 1 v m (xs.map (.int .i64))) (hm : xs.length = m) : ∃ A c, v = .slice A m c ∧ Sl w w.heap.size A (xs.map (.int .i64)) := by
  rcases h.2 with ⟨rfl, h0⟩ | ⟨g, cap, cur, rfl, _⟩
  · subst h0
    exact ⟨none, 0, rfl, by rw [List.eq_nil_of_length_eq_zero hm]; exact Sl.nil⟩
  · exact ⟨_, cap, rfl, Sl.of_own h⟩
set_option maxHeartbeats 2000000 in
theorem rpath_none (n d a b h : Int) (w : World) (hd : 0 ≤ d) (hp : Rg.pathB n d a b h = false) :
    Calls Tryd.prog 40 #[.int .i64 n, .int .u8 d, .int .i64 a, .int .i64 b, .int .i64 h] w fun e w' => e = .returned (.tuple #[.slice none 0 0, .bool false]) ∧ w = w' := by
  have D := hide (rdist_any n d a b w hd)
  have hc : Rg.dist n d a b < 1 ∨ (1 ≤ Rg.dist n d a b ∧ ¬ h = 1 ∧ ¬ h = 2) ∨ (1 ≤ Rg.dist n d a b ∧ (h = 1 ∨ h = 2) ∧ Rg.dist n d a b < h) := by
    simp [Rg.pathB, Rg.hopB] at hp
    omega
  clear hp
  obtain ⟨x, hx⟩ : ∃ x, Rg.dist n d a b = x := ⟨_, rfl⟩
  rw [hx] at D hc
  clear hx
  rcases hc with hc | ⟨hc, h1, h2⟩ | ⟨hc, h1 | h1, h2⟩
  · have q1 : decide (x < 1) = true := decide_eq_true hc
    go_enter Tryd.func40, Tryd.ntmps40
    go_wp2_with fail
    refine D.out.mono ?_
    rintro e w' ⟨rfl, rfl⟩
    go_wp2_with fail
    go_ret2
    exact ⟨rfl, rfl⟩
  · have q1 : decide (x < 1) = false := decide_eq_false (by omega)
    have q2 : (h == 1) = false := by simpa using h1
    have q3 : (h == 2) = false := by simpa using h2
    go_enter Tryd.func40, Tryd.ntmps40
    go_wp2_with fail
    refine D.out.mono ?_
    rintro e w' ⟨rfl, rfl⟩
    go_wp2_with fail
    go_ret2
    exact ⟨rfl, rfl⟩
  · subst h1
    omega
  · subst h1
    have q1 : decide (x < 1) = false := decide_eq_false (by omega)
    have q2 : decide (x < 2) = true := decide_eq_true (by omega)
    go_enter Tryd.func40, Tryd.ntmps40
    go_wp2_with fail
    refine D.out.mono ?_
    rintro e w' ⟨rfl, rfl⟩
    go_wp2_with fail
    go_ret2
    exact ⟨rfl, rfl⟩
set_option maxRecDepth 100000 in
set_option maxHeartbeats 4000000 in
theorem rpath_some (n d a : Int) (hn : 4 ≤ n) (hn' : n ≤ 16) (hd : d = 0 ∨ d = 1) (ha : 0 ≤ a) (ha' : a < n) : ∀ (N : Nat) (b h : Int) (w : World), Rg.dist n d a b ≤ N → 0 ≤ b → b < n → (h = 1 ∨ h = 2) → h ≤ Rg.dist n d a b →
    Calls Tryd.prog 40 #[.int .i64 n, .int .u8 d, .int .i64 a, .int .i64 b, .int .i64 h] w fun e w' => (∃ v, e = .returned (.tuple #[v, .bool true]) ∧ w'.ownsRow w.heap.size 3 1 v (Rg.pathL n d a b h).length ((Rg.pathL n d a b h).map (.int .i64))) ∧ Below w.heap.size w w' := by
  obtain ⟨i0, hi, hz0, hz1, hz2⟩ := info_parts info3
  intro N
  induction N with
  | zero => intro b h w h1 h2 h3 h4 h5; omega
  | succ N ih =>
    intro b h w hN hb hb' hh hD
    have D := hide (rdist_any n d a b w (by omega))
    have r := dist_rng n d a b hn hn' hd ha ha' hb hb'
    rcases Int.lt_or_le h (Rg.dist n d a b) with hlt | hge
    · have PR := hide (path_rec n d a b h hn hn' hd ha ha' hb hb' hh hlt)
      have DB := dist_back n d a b h hn hn' hd ha ha' hb hb' (by omega) hD
      have SR := step_rng n d b (-h) hn hn' hd hb hb'
      have OT := hide (rother_any d w hd)
      have ST := hide (rstep_any n (1 - d) b h w (by omega))
      have FL := step_flip n d b (-h) hn hn' hd hb hb'
      rw [Int.neg_neg] at FL
      rw [FL] at ST
      clear FL
      have LL : (Rg.pathL n d a (Rg.step n d b (-h)) (if Rg.dist n d a b - h = 1 then 1 else 2)).length ≤ 20 := by
        unfold Rg.pathL
        rw [List.length_reverse]
        exact pl_len' _ _ _ _ _ _
      have IH := hide (fun (l : Int) (hl : l = 1 ∨ l = 2) (hl' : l ≤ Rg.dist n d a b - h) => ih (Rg.step n d b (-h)) l w (by rw [DB]; omega) SR.1 SR.2 hl (by rw [DB]; exact hl'))
      clear DB SR ih
      obtain ⟨x, hx⟩ : ∃ x, Rg.dist n d a b = x := ⟨_, rfl⟩
      obtain ⟨p, hpp⟩ : ∃ p, Rg.step n d b (-h) = p := ⟨_, rfl⟩
      obtain ⟨L, hLL⟩ : ∃ L, Rg.pathL n d a b h = L := ⟨_, rfl⟩
      rw [hx] at D hN hD r hlt PR LL IH
      rw [hpp] at PR ST LL IH
      rw [hLL] at PR ⊢
      clear hx hpp hLL
      obtain ⟨l, hl, hl1, hl2⟩ : ∃ l : Int, (if x - h = 1 then (1 : Int) else 2) = l ∧ (l = 1 ∨ l = 2) ∧ l ≤ x - h := by
        split
        · exact ⟨1, rfl, .inl rfl, by omega⟩
        · exact ⟨2, rfl, .inr rfl, by omega⟩
      rw [hl] at PR LL
      have IH := hide (IH.out l hl1 hl2)
      obtain ⟨K, hK⟩ : ∃ K, Rg.pathL n d a p l = K := ⟨_, rfl⟩
      rw [hK] at PR LL IH
      clear hK
      obtain ⟨m, hm⟩ : ∃ m, K.length = m := ⟨_, rfl⟩
      rw [hm] at LL IH
      have HM := hide hm
      clear hm
      have hleft : (x - h = 1 ∧ l = 1) ∨ (¬ x - h = 1 ∧ l = 2) := by
        split at hl
        · exact .inl ⟨by assumption, hl.symm⟩
        · exact .inr ⟨by assumption, hl.symm⟩
      clear hl hl1 hl2
      have fin : ∀ (v : Value) (w1 : World), w1.ownsRow w.heap.size 3 1 v (0 + m + 1) (([] ++ K.map (Value.int IntKind.i64)) ++ [Value.int .i64 p]) → w1.ownsRow w.heap.size 3 1 v L.length (L.map (.int .i64)) := fun v w1 h => by
        rw [PR.out, List.length_append, HM.out, List.map_append]
        simpa using h
      have FIN := hide fin
      clear fin PR hN hD
      have q1 : decide (x < 1) = false := decide_eq_false (by omega)
      have q2 : decide (x < h) = false := decide_eq_false (by omega)
      have q3 : (x == h) = false := by simp; omega
      rcases hh with rfl | rfl
      all_goals
        rcases hleft with ⟨t, rfl⟩ | ⟨t, rfl⟩
      rotate_left 4
      all_goals
        first
          | have q4 : (x - 1 == 1) = true := beq_iff_eq.2 t
          | have q4 : (x - 2 == 1) = true := beq_iff_eq.2 t
          | have q4 : (x - 1 == 1) = false := beq_eq_false_iff_ne.2 t
          | have q4 : (x - 2 == 1) = false := beq_eq_false_iff_ne.2 t
        clear t
        go_enter Tryd.func40, Tryd.ntmps40
        go_wp2_with fail
        refine D.out.mono ?_
        rintro e w' ⟨rfl, rfl⟩
        go_wp2_with fail
        refine OT.out.mono ?_
        rintro e w' ⟨rfl, rfl⟩
        go_wp2_with fail
        refine ST.out.mono ?_
        rintro e w' ⟨rfl, rfl⟩
        go_wp2_with fail
        refine IH.out.mono ?_
        rintro e w1 ⟨⟨v, rfl, ho⟩, hb⟩
        obtain ⟨A, c, rfl, hsl⟩ := own_sl ho HM.out
        have hbs := hb.size
        have HB := hide hb
        clear hb ho
        go_wp2_with (at_builtin; first | (refine wpList_append_sl _ rfl _ _ 62 rfl w.heap.size 3 i0 (.int .i64 0) 1 8 Tryd.underlying62 hi hz0 hz1 hz2 rfl (by decide) (.slice none 0 0) 0 [] rfl (World.ownsRow_nil _ _ _ _) _ A m c (K.map (.int .i64)) rfl (by rw [List.length_map, HM.out, Nat.mul_one]) hsl (one_ints _ _) (by unfold maxLen; omega) (by omega) hbs ?_; intro v1 w2 hown1 hg1 hat1; have HB2 := hide (HB.out.grown hg1 hbs (fun k hk => by simp [Value.ownBlock] at hk)); have HO := hide hown1; clear hown1 hg1 hat1; have hbs2 := HB2.out.size) | (refine wpList_append_sl _ rfl _ _ 62 rfl w.heap.size 3 i0 (.int .i64 0) 1 8 Tryd.underlying62 hi hz0 hz1 hz2 rfl (by decide) _ (0 + m) ([] ++ K.map (.int .i64)) rfl (HO.out.alloc _) _ _ 1 1 [.int .i64 p] rfl rfl (Sl.one (cell_new' _ #[.int .i64 p] 3 (0, 0) 0 _ (by simp))) (by simp [Value.oneCell']) (by unfold maxLen; omega) (by omega) (by simp; omega) ?_; intro v2 w3 hown2 hg2 hat2))
        go_ret2
        exact ⟨⟨v2, rfl, FIN.out _ _ hown2⟩, (HB2.out.alloc hbs2 _).grown hg2 (by simp; omega) (ownsBlock_ge HO.out)⟩
    · have e : Rg.dist n d a b = h := by omega
      have PE := hide (path_end n d a b h e)
      rw [e] at D
      clear hN r hD hge e
      rcases hh with rfl | rfl
      all_goals
        go_enter Tryd.func40, Tryd.ntmps40
        go_wp2_with fail
        refine D.out.mono ?_
        rintro e w' ⟨rfl, rfl⟩
        go_wp2_with fail
        go_ret2
        exact ⟨⟨_, rfl, by rw [PE.out]; exact World.ownsRow_nil _ _ _ _⟩, Below.refl _ _⟩
end Go.Proofs.YtbniijmabebhoaaDoor
