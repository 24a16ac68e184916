/- The Book of the laws' help: slices of one kind are noted, and shown to lie apart: what each of its functions returns, and what becomes of memory. -/
import Derived.Test.YtlbnikmaafccnaaProg
import Derived.Test.YtlbnikmaafccnaaLineWords
import Derived.WalkLawsBesides
import Derived.Outline
import Derived.IntWalk
import Derived.BigQuiet
import Derived.Deep.QuietTactic
import Derived.Deep.LoopGhost
import Derived.Deep.RegionHeld3
import Derived.Maps.AppendAt
namespace Go.Proofs.Ytlbnikmaafccnaa
open Go.RowKit
set_option linter.unusedVariables false
namespace Bk
/-- A slice that is noted: its address, its length. -/
structure Rw where
  A : Option Addr
  m : Nat
def Rw.val (r : Rw) : Value := .slice r.A r.m r.m
def mk0 (k s : Nat) : Nat := if s = 0 then k % 200 else k / 200 % 200
theorem mk0_lt (k s : Nat) : mk0 k s < 200 := by unfold mk0; split <;> omega
theorem mk0_zero (k : Nat) : ((mk0 k 0 : Nat) : Int) = (k : Int) % 200 := by unfold mk0; simp
theorem mk0_pos (k s : Nat) (h : 0 < s) : ((mk0 k s : Nat) : Int) = (k : Int) / 200 % 200 := by unfold mk0; rw [if_neg (by omega)]; simp
def Holdx (w : World) (rows : List Rw) (f : Nat → Nat → Int) : Prop :=
  ∀ (i : Nat) (r : Rw), rows[i]? = some r → 0 < r.m → ∃ g cur, r.A = some ⟨g, 0, none⟩ ∧ w.heap[g]? = some (.cells cur 5 (0, 0)) ∧ r.m ≤ cur.size ∧ ∀ j, j < r.m → cur[j]? = some (.int .u8 (f i j))
structure Sepx (B : Nat) (v : Value) (rows : List Rw) : Prop where
  far : ∀ (i : Nat) (r : Rw) (g : Nat), rows[i]? = some r → 0 < r.m → r.A = some ⟨g, 0, none⟩ → g ≠ B ∧ v.ownBlock ≠ some g
  two : ∀ (i j : Nat) (r s : Rw) (g : Nat), rows[i]? = some r → rows[j]? = some s → 0 < r.m → 0 < s.m → r.A = some ⟨g, 0, none⟩ → s.A = some ⟨g, 0, none⟩ → i = j
def Blk (rows : List Rw) (k : Nat) : Prop := ∃ (i : Nat) (r : Rw), rows[i]? = some r ∧ 0 < r.m ∧ r.A = some ⟨k, 0, none⟩
def Bok (w : World) (B : Nat) (v : Value) (rows : List Rw) : Prop :=
  w.heap[B]? = some (.cells #[v, .slice none 0 0, .slice none 0 0, .bool false] 73 (0, 0)) ∧ w.ownsRow (B + 1) 63 1 v rows.length (rows.map Rw.val)
theorem Holdx.far {S : Nat → Prop} {w w' : World} {rows : List Rw} {f : Nat → Nat → Int} (h : Holdx w rows f) (hf : Far S w w') (hn : ∀ k, Blk rows k → ¬ S k) : Holdx w' rows f := by
  intro i r hr hm
  obtain ⟨g, cur, e, hg, hs, hc⟩ := h i r hr hm
  exact ⟨g, cur, e, (hf.block g (lt_of_blk hg) (hn g ⟨i, r, hr, hm, e⟩)).trans hg, hs, hc⟩
theorem Holdx.drewN {w : World} {rows : List Rw} {f : Nat → Nat → Int} (h : Holdx w rows f) (n : Nat) : Holdx (w.drewN n) rows f := h
theorem Holdx.drew {w : World} {rows : List Rw} {f : Nat → Nat → Int} (h : Holdx w rows f) : Holdx w.drew rows f := h
theorem Holdx.set {w : World} {B : Nat} {v : Value} {rows : List Rw} {f : Nat → Nat → Int} (h : Holdx w rows f) (hs : Sepx B v rows) {i j g : Nat} {r : Rw} (hr : rows[i]? = some r) (hj : j < r.m) (hA : r.A = some ⟨g, 0, none⟩) (x : Int) :
    Holdx (w.setCell ⟨g, j, none⟩ (.int .u8 x)) rows (fun a b => if a = i ∧ b = j then x else f a b) := by
  intro a s hsr hm
  obtain ⟨g', cur, e, hg, hsz, hc⟩ := h a s hsr hm
  by_cases ha : a = i
  · subst ha
    rw [hr] at hsr
    cases hsr
    rw [hA] at e
    cases e
    refine ⟨g, _, hA, row_set hg j _, by simpa using hsz, fun b hb => ?_⟩
    rw [Array.getElem?_setIfInBounds]
    by_cases hb' : j = b
    · subst hb'
      rw [if_pos rfl, if_pos (by omega)]
      simp
    · rw [if_neg hb', hc b hb]
      show _ = some (Value.int _ (if a = a ∧ b = j then x else f a b))
      rw [if_neg (by omega)]
  · have hne : g' ≠ g := by
      rintro rfl
      exact ha (hs.two a i s r g' hsr hr hm (by omega) e hA)
    refine ⟨g', cur, e, (Below.heap_setCell _ _ _ _ (fun h => hne h)).trans hg, hsz, fun b hb => ?_⟩
    rw [hc b hb]
    show _ = some (Value.int _ (if a = i ∧ b = j then x else f a b))
    rw [if_neg (by omega)]
theorem Holdx.cell {w : World} {rows : List Rw} {f : Nat → Nat → Int} (h : Holdx w rows f) {i j : Nat} {r : Rw} (hr : rows[i]? = some r) (hj : j < r.m) :
    ∃ g, r.A = some ⟨g, 0, none⟩ ∧ w.cell? ⟨g, j, none⟩ = some (.int .u8 (f i j)) ∧ w.frozen? ⟨g, j, none⟩ = false := by
  obtain ⟨g, cur, e, hg, _, hc⟩ := h i r hr (by omega)
  exact ⟨g, e, (row_cell hg j).trans (hc j hj), row_free hg j⟩
theorem Bok.far {S : Nat → Prop} {w w' : World} {B : Nat} {v : Value} {rows : List Rw} (h : Bok w B v rows) (hf : Far S w w') (hB : ¬ S B) (hR : ∀ g, v.ownBlock = some g → ¬ S g) : Bok w' B v rows := by
  refine ⟨(hf.block B (lt_of_blk h.1) hB).trans h.1, h.2.1, ?_⟩
  rcases h.2.2 with h0 | ⟨g, cap, cur, e, hb, hg, hr⟩
  · exact .inl h0
  · exact .inr ⟨g, cap, cur, e, hb, (hf.block g (lt_of_blk hg) (hR g (by rw [e]; rfl))).trans hg, hr⟩
theorem own_far {S : Nat → Prop} {w w' : World} {base n size : Nat} {e : TypeId} {v : Value} {xs : List Value} (h : w.ownsRow base e size v n xs) (hf : Far S w w') (hR : ∀ g, v.ownBlock = some g → ¬ S g) : w'.ownsRow base e size v n xs := by
  refine ⟨h.1, ?_⟩
  rcases h.2 with h0 | ⟨g, cap, cur, e, hb, hg, hr⟩
  · exact .inl h0
  · exact .inr ⟨g, cap, cur, e, hb, (hf.block g (lt_of_blk hg) (hR g (by rw [e]; rfl))).trans hg, hr⟩
theorem own_form {w : World} {base n : Nat} {e : TypeId} {v : Value} {xs : List Value} (h : w.ownsRow base e 1 v (n + 1) xs) : ∃ g cap, v = .slice (some ⟨g, 0, none⟩) (n + 1) cap := by
  rcases h.2 with ⟨_, h0⟩ | ⟨g, cap, cur, e, _⟩
  · omega
  · exact ⟨g, cap, e⟩
theorem far_grown {S : Nat → Prop} {w w1 w2 : World} {row : Option Nat} (h : Far S w w1) (hg : w1.grownBy w2 row) (hr : ∀ g, row = some g → S g ∨ w.heap.size ≤ g) : Far S w w2 :=
  ⟨hg.os.trans h.os, hg.tape.trans h.tape, hg.output.trans h.output, Nat.le_trans h.size hg.size, fun k hk hn => (hg.block k (Nat.lt_of_lt_of_le hk h.size) (fun e => by
    rcases hr k e.symm with h1 | h1
    · exact hn h1
    · omega)).trans (h.block k hk hn)⟩
/-- What a read of the Book comes to: its row's address, and the row's slices. -/
theorem Bok.open {w : World} {B : Nat} {v : Value} {rows : List Rw} (h : Bok w B v rows) (hne : rows ≠ []) :
    ∃ R cap, v = .slice (some ⟨R, 0, none⟩) rows.length cap ∧ ∀ (i : Nat) (r : Rw), rows[i]? = some r → w.cell? ⟨R, i, none⟩ = some r.val := by
  rcases h.2.2 with ⟨_, h0⟩ | ⟨g, cap, cur, e, hb, hg, _, _, _, ht⟩
  · exact absurd (List.eq_nil_of_length_eq_zero h0) hne
  · refine ⟨g, cap, e, fun i r hr => ?_⟩
    have := h.2
    rw [e] at this
    rw [World.ownsRow.cellAt this i (by have := (List.getElem?_eq_some_iff.1 hr).1; omega), List.getElem?_map, hr]
    rfl
theorem bok_new (w : World) : Bok (w.alloc (.cells #[.slice none 0 0, .slice none 0 0, .slice none 0 0, .bool false] 73)) w.heap.size (.slice none 0 0) [] := by
  refine ⟨?_, World.ownsRow_nil _ _ _ _⟩
  show (w.heap.push _)[w.heap.size]? = _
  simp
theorem two_sep {B b m m' : Nat} {v : Value} {A A' : Option Addr} (h1 : ∀ g, A = some ⟨g, 0, none⟩ → g < b) (h3 : ∀ g, A' = some ⟨g, 0, none⟩ → b ≤ g ∧ g < B) (hb : b ≤ B) (hv : ∀ g, v.ownBlock = some g → B < g) : Sepx B v [⟨A, m⟩, ⟨A', m'⟩] := by
  have far : ∀ (i : Nat) (r : Rw) (g : Nat), [(⟨A, m⟩ : Rw), ⟨A', m'⟩][i]? = some r → r.A = some ⟨g, 0, none⟩ → g < B := by
    intro i r g hr hA
    match i, hr with
    | 0, hr => cases hr; have := h1 g hA; omega
    | 1, hr => cases hr; exact (h3 g hA).2
  refine ⟨fun i r g hr hm hA => ?_, fun i j r s g hr hs hm hm' e e' => ?_⟩
  · have := far i r g hr hA
    exact ⟨by omega, fun h => by have := hv g h; omega⟩
  · match i, j, hr, hs with
    | 0, 0, _, _ => rfl
    | 1, 1, _, _ => rfl
    | 0, 1, hr, hs =>
      cases hr
      cases hs
      have := h1 g e
      have := h3 g e'
      omega
    | 1, 0, hr, hs =>
      cases hr
      cases hs
      have := h1 g e'
      have := h3 g e
      omega
end Bk
open Bk
theorem bkmark_any (k s : Nat) (w : World) (hk : k ≤ 1000000) : Calls Try.prog 48 #[.int .i64 k, .int .i64 s] w fun e w' => e = .returned (.int .i64 (mk0 k s : Nat)) ∧ w = w' := by
  rcases Nat.eq_zero_or_pos s with rfl | h
  · have E := hide (mk0_zero k)
    go_enter Try.func48, Try.ntmps48
    go_wp2_with fail
    go_ret
    exact ⟨ret_int E.out.symm, rfl⟩
  · have h' : ((s : Int) == 0) = false := by simp; omega
    have E := hide (mk0_pos k s h)
    clear h
    go_enter Try.func48, Try.ntmps48
    go_wp2_with fail
    go_ret
    exact ⟨ret_int E.out.symm, rfl⟩
theorem bkmark_conv (k s : Nat) : IntKind.u8.wrap ((mk0 k s : Nat) : Int) = ((mk0 k s : Nat) : Int) := by
  have := mk0_lt k s
  rw [IntKind.wrap_u8]
  omega
theorem bkquiet {P : Program} {f : FuncId} {args : Array Value} {w : World} {a n : Nat} {v : Value} (h : Calls P f args (w.drewN (a + n)) fun e w' => e = .returned v ∧ w.drewN (a + n) = w') :
    Calls P f args (w.drewN (a + n)) fun e w'' => e = .returned v ∧ ∃ m, w'' = w.drewN (a + m) := h.mono fun _ _ ⟨he, hm⟩ => ⟨he, n, hm.symm⟩
theorem bkinfo : (Try.prog.info? 63).map (fun i => (i.zero, i.size, i.bytes)) = some (some (.slice none 0 0), 1, 24) := by kernel_rfl
set_option maxRecDepth 100000 in
set_option maxHeartbeats 2000000 in
theorem bknote_any (B m : Nat) (A : Option Addr) (v : Value) (rows : List Rw) (w : World) (hB : Bok w B v rows) (hk : rows.length ≤ 1000) (hm : m ≤ maxLen) :
    Calls Try.prog 38 #[.pointer (some ⟨B, 0, none⟩), .slice A m m] w fun e w' => e = .returned (.tuple #[]) ∧ ∃ v', Bok w' B v' (rows ++ [⟨A, m⟩]) ∧ (v'.ownBlock = v.ownBlock ∨ ∃ g, v'.ownBlock = some g ∧ w.heap.size ≤ g) ∧ Far (fun k => k = B ∨ v.ownBlock = some k) w w' := by
  unfold maxLen at hm
  obtain ⟨i0, hi, hz0, hz1, hz2⟩ := info_parts bkinfo
  have hlt := lt_of_blk hB.1
  have c3 := row_cell hB.1 3
  have f3 := row_free hB.1 3
  have c1 := row_cell hB.1 0
  have f1 := row_free hB.1 0
  have hge : ∀ g, v.ownBlock = some g → B + 1 ≤ g := fun g hg => (World.ownsRow.lt hB.2 g hg).1
  have F0 := hide ((Far.refl (fun k => k = B) w).setCell (p := ⟨B, 3, none⟩) (.inl rfl) (.bool false))
  have HO := hide (own_far hB.2 F0.out (fun g hg e => by have := hge g hg; omega))
  have HH := hide (row_set hB.1 3 (.bool false))
  clear hB
  go_enter Try.func38, Try.ntmps38
  go_wp2_with (at_builtin; refine wpList_append_sl _ rfl _ _ 69 rfl (B + 1) 63 i0 (.slice none 0 0) 1 24 Try.underlying69 hi hz0 hz1 hz2 rfl (by decide) v rows.length (rows.map Rw.val) rfl (HO.out.alloc _) _ _ 1 1 [.slice A m m] rfl rfl (Sl.one (cell_new' _ #[.slice A m m] 63 (0, 0) 0 _ (by simp))) (by simp [Value.oneCell']) (by unfold maxLen; omega) (by omega) (by simp; omega) ?_; intro v1 w1 hown1 hg1 hat1; obtain ⟨g1, cap1, hv1⟩ := own_form hown1; have F1 := hide (far_grown ((F0.out.wide (S' := fun k => k = B ∨ v.ownBlock = some k) (fun k h => .inl h)).alloc (.cells #[.slice A m m] 63)) hg1 (fun g h => .inl (.inr h))); have H1 := hide ((hg1.block B (by simp; omega) (fun e => by have := hge B e.symm; omega)).trans ((Below.heap_alloc _ _ _ (by simp; omega)).trans HH.out)); have c1' := row_cell H1.out 0; have f1' := row_free H1.out 0; have hO1 := hide hown1; have hA1 := hide hat1; rw [hv1] at hO1 hA1; clear hown1 hg1 hat1 c1 c3 f1 f3; rw [hv1])
  go_end0
  refine ⟨rfl, .slice (some ⟨g1, 0, none⟩) (rows.length + 1) cap1, ⟨row_set H1.out 0 _, ?_⟩, ?_, F1.out.setCell (.inl (.inl rfl)) _⟩
  · have h := own_far hO1.out ((Far.refl (fun k => k = B) w1).setCell (p := ⟨B, 0, none⟩) (.inl rfl) (.slice (some ⟨g1, 0, none⟩) (rows.length + 1) cap1)) (fun g hg e => by
      have := (World.ownsRow.lt hO1.out g hg).1
      omega)
    simpa [Rw.val] using h
  · rcases hA1.out with h | h
    · exact .inl h
    · exact .inr ⟨_, h, by simp⟩
set_option maxRecDepth 100000 in
set_option maxHeartbeats 4000000 in
theorem bkkept_any (B s : Nat) (v : Value) (rows : List Rw) (w : World) (hB : Bok w B v rows) (hne : rows ≠ []) (hk : rows.length ≤ 1000) (hm : ∀ (i : Nat) (r : Rw), rows[i]? = some r → r.m ≤ maxLen) (hH : Holdx w rows (fun i _ => mk0 i s)) :
    Calls Try.prog 49 #[.pointer (some ⟨B, 0, none⟩), .int .i64 s] w fun e w' => e = .returned (.bool true) ∧ ∃ n, w' = w.drewN n := by
  obtain ⟨R, cap, rfl, hR⟩ := hB.open hne
  have cb : w.cell? ⟨B, 0, none⟩ = some (.slice (some ⟨R, 0, none⟩) rows.length cap) := row_cell hB.1 0
  have cx : w.cell? ⟨B, 1, none⟩ = some (.slice none 0 0) := row_cell hB.1 1
  have cy : w.cell? ⟨B, 2, none⟩ = some (.slice none 0 0) := row_cell hB.1 2
  have HR := hide hR
  have HH := hide hH
  have HM := hide hm
  clear hR hH hB hm hne
  obtain ⟨n, hn⟩ : ∃ n, rows.length = n := ⟨_, rfl⟩
  rw [hn] at cb hk
  have HN := hide hn
  clear hn
  go_enter Try.func49, Try.ntmps49
  go_wp2_with fail
  go_loopg [5] n (fun gk i wr => ∃ k q : Nat, gk + k = n ∧ i = .int .i64 k ∧ wr = w.drewN q)
  case atStart => exact ⟨0, 0, rfl, rfl, rfl⟩
  case round =>
    obtain ⟨k, q, hgk, rfl, rfl⟩ := hrel
    by_cases hlt : k < n
    · obtain ⟨r, hr⟩ : ∃ r, rows[k]? = some r := ⟨_, List.getElem?_eq_getElem (by have := HN.out; omega)⟩
      have hmr := HM.out k r hr
      unfold maxLen at hmr
      have cr := HR.out k r hr
      have HC := hide (fun j hj => HH.out.cell (j := j) hr hj)
      clear hr
      obtain ⟨A, m⟩ := r
      simp only [Rw.val] at cr
      have hmr : m ≤ 9223372036854775807 := hmr
      go_wp2_with fail
      obtain ⟨go, hgo⟩ : ∃ x, x = gk := ⟨_, rfl⟩
      go_loopg [6] m (fun gk j wr => ∃ b q : Nat, gk + b = m ∧ j = .int .i64 b ∧ wr = w.drewN q)
      case atStart => exact ⟨0, _, rfl, rfl, rfl⟩
      case round =>
        obtain ⟨b, q2, hgk2, rfl, rfl⟩ := hrel
        by_cases hlt2 : b < m
        · obtain ⟨g, hA, hc, hf⟩ := HC.out b hlt2
          have hA : A = some ⟨g, 0, none⟩ := hA
          subst hA
          have hz : (0 : Int) ≤ b := by omega
          have hz' : (b : Int) < m := by omega
          have hy : (0 : Int) ≤ k := by omega
          have hy' : (k : Int) < n := by omega
          have hcv := bkmark_conv k s
          have hk6 : k ≤ 1000000 := by omega
          go_wp2_with fail
          go_quiet ((go_at_call 48; exact bkquiet (bkmark_any k s _ hk6)))
          go_wp2_with fail
          go_roundg (gk - 1)
          case measure => omega
          case rel => exact ⟨b + 1, _, by omega, by go_num, rfl⟩
        · go_wp2_with fail
          go_roundg (go - 1)
          case measure => omega
          case rel => exact ⟨k + 1, _, by omega, by go_num, rfl⟩
    · go_wp2_with fail
      refine wp_loop_rounds 1 ?_; rw [rounds_succ]; go_wp2_with fail
      refine wp_loop_rounds 1 ?_; rw [rounds_succ]; go_wp2_with fail
      go_ret
      exact ⟨rfl, q, rfl⟩
/-- What Apart's rounds keep: all but the noted slices' cells is as it was; these hold f. -/
def St (w : World) (rows : List Rw) (f : Nat → Nat → Int) (w' : World) : Prop := Far (Blk rows) w w' ∧ Holdx w' rows f
set_option maxRecDepth 100000 in
set_option maxHeartbeats 8000000 in
theorem bkapart_any (B : Nat) (v : Value) (rows : List Rw) (w : World) (f0 : Nat → Nat → Int) (hB : Bok w B v rows) (hne : rows ≠ []) (hk : rows.length ≤ 1000) (hm : ∀ (i : Nat) (r : Rw), rows[i]? = some r → r.m ≤ maxLen) (hH : Holdx w rows f0) (hS : Sepx B v rows) :
    Calls Try.prog 39 #[.pointer (some ⟨B, 0, none⟩)] w fun e w' => e = .returned (.bool true) ∧ Far (Blk rows) w w' := by
  have hnB : ¬ Blk rows B := fun ⟨i, r, hr, hm, hA⟩ => (hS.far i r B hr hm hA).1 rfl
  have hnR : ∀ g, v.ownBlock = some g → ¬ Blk rows g := fun g hg ⟨i, r, hr, hm, hA⟩ => (hS.far i r g hr hm hA).2 hg
  have HBK := hide (fun (W : World) (F : Far (Blk rows) w W) => hB.far F hnB hnR)
  have HK := hide (fun (s : Nat) (W : World) (F : Far (Blk rows) w W) (h : Holdx W rows (fun i _ => mk0 i s)) => bkkept_any B s v rows W (hB.far F hnB hnR) hne hk hm h)
  obtain ⟨R, cap, rfl, hR⟩ := hB.open hne
  have cb : w.cell? ⟨B, 0, none⟩ = some (.slice (some ⟨R, 0, none⟩) rows.length cap) := row_cell hB.1 0
  have cz : w.cell? ⟨B, 3, none⟩ = some (.bool false) := row_cell hB.1 3
  have HC := hide (fun (W : World) (F : Far (Blk rows) w W) => (show W.cell? ⟨B, 0, none⟩ = some (.slice (some ⟨R, 0, none⟩) rows.length cap) ∧ W.cell? ⟨B, 1, none⟩ = some (.slice none 0 0) ∧ W.cell? ⟨B, 2, none⟩ = some (.slice none 0 0) from
    ⟨row_cell (HBK.out W F).1 0, row_cell (HBK.out W F).1 1, row_cell (HBK.out W F).1 2⟩))
  have HR := hide (fun (W : World) (F : Far (Blk rows) w W) => by
    obtain ⟨R', cap', e, h⟩ := (HBK.out W F).open hne
    cases e
    exact h)
  have S0 := hide (show St w rows f0 w from ⟨Far.refl _ _, hH⟩)
  have HM := hide hm
  have HS := hide hS
  clear hR hH hB hm hne HBK hnB hnR hS
  obtain ⟨n, hn⟩ : ∃ n, rows.length = n := ⟨_, rfl⟩
  rw [hn] at hk cb HC HS
  have HN := hide hn
  clear hn
  go_enter Try.func39, Try.ntmps39
  go_wp2_with fail
  clear cz cb
  go_loopg [3] 2 (fun gk t wr => ∃ (s : Nat) (f : Nat → Nat → Int), gk + s = 2 ∧ t = .int .i64 s ∧ Hid (St w rows f wr))
  case atStart => exact ⟨0, f0, rfl, rfl, S0⟩
  case round =>
    obtain ⟨s, f, hgk, rfl, HS1⟩ := hrel
    obtain ⟨go, hgo⟩ : ∃ x, x = gk := ⟨_, rfl⟩
    obtain ⟨ws, hws⟩ : ∃ x, x = wr := ⟨_, rfl⟩
    subst hws
    by_cases hlt : s < 2
    · obtain ⟨cb, cx, cy⟩ := HC.out ws HS1.out.1
      have hds : decide ((s : Int) < 2) = true := decide_eq_true (by omega)
      go_wp2_with fail
      clear cb cx cy
      go_loopg [4] n (fun gk i wr => ∃ (k : Nat) (f : Nat → Nat → Int), gk + k = n ∧ i = .int .i64 k ∧ Hid (St w rows f wr) ∧ Hid (∀ (a b : Nat) (r : Rw), a < k → rows[a]? = some r → b < r.m → f a b = mk0 a s))
      case atStart => exact ⟨0, f, rfl, rfl, HS1, fun a b r h => by omega⟩
      case round =>
        obtain ⟨k, f2, hgk2, rfl, HS2, HF2⟩ := hrel
        obtain ⟨go2, hgo2⟩ : ∃ x, x = gk := ⟨_, rfl⟩
        obtain ⟨w2, hw2⟩ : ∃ x, x = wr := ⟨_, rfl⟩
        subst hw2
        obtain ⟨cb, cx, cy⟩ := HC.out w2 HS2.out.1
        by_cases hlt2 : k < n
        · obtain ⟨r, hr⟩ : ∃ r, rows[k]? = some r := ⟨_, List.getElem?_eq_getElem (by have := HN.out; omega)⟩
          have hmr := HM.out k r hr
          unfold maxLen at hmr
          have HRr := hide hr
          obtain ⟨A, m⟩ := r
          have hmr : m ≤ 9223372036854775807 := hmr
          clear cx cy hr
          have hdk : decide ((k : Int) < n) = true := decide_eq_true (by omega)
          go_wp2_with fail
          clear cb
          go_loopg [5] m (fun gk j wr => ∃ (b : Nat) (f : Nat → Nat → Int), gk + b = m ∧ j = .int .i64 b ∧ Hid (St w rows f wr) ∧ Hid (∀ (a b : Nat) (r : Rw), a < k → rows[a]? = some r → b < r.m → f a b = mk0 a s) ∧ Hid (∀ c, c < b → f k c = mk0 k s))
          case atStart => exact ⟨0, f2, rfl, rfl, HS2, HF2, fun c h => by omega⟩
          case round =>
            obtain ⟨b, f3, hgk3, rfl, HS3, HF3, HG3⟩ := hrel
            obtain ⟨w3, hw3⟩ : ∃ x, x = wr := ⟨_, rfl⟩
            subst hw3
            obtain ⟨cb, cx, cy⟩ := HC.out w3 HS3.out.1
            have cr : w3.cell? ⟨R, k, none⟩ = some (.slice A m m) := HR.out w3 HS3.out.1 k _ HRr.out
            by_cases hlt3 : b < m
            · obtain ⟨g, hA, hc, hf⟩ := HS3.out.2.cell HRr.out (j := b) hlt3
              have hA : A = some ⟨g, 0, none⟩ := hA
              subst hA
              clear cx cy
              have hz : (0 : Int) ≤ b := by omega
              have hz' : (b : Int) < m := by omega
              have hy : (0 : Int) ≤ k := by omega
              have hy' : (k : Int) < n := by omega
              have hcv := bkmark_conv k s
              have hk6 : k ≤ 1000000 := by omega
              go_wp2_with fail
              have hgB : ¬ g = B := (HS.out.far k _ g HRr.out (by show 0 < m; omega) rfl).1
              have hgR : ¬ g = R := fun h => (HS.out.far k _ g HRr.out (by show 0 < m; omega) rfl).2 (by rw [h]; rfl)
              go_region_held3 (fun w' => w'.cell? ⟨B, 0, none⟩ = some (.slice (some ⟨R, 0, none⟩) n cap) ∧ w'.cell? ⟨R, k, none⟩ = some (.slice (some ⟨g, 0, none⟩) m m)) (go_keep)
                (first | (go_at_call 48; refine (bkmark_any k s _ hk6).mono ?_; rintro e w' ⟨rfl, rfl⟩))
              go_wp2_with fail
              go_roundg (gk - 1)
              case measure => omega
              case rel =>
                refine ⟨b + 1, fun x y => if x = k ∧ y = b then (mk0 k s : Nat) else f3 x y, by omega, by go_num, ⟨(HS3.out.1.drew).setCell (.inl ⟨k, _, HRr.out, by show 0 < m; omega, rfl⟩) _, (HS3.out.2.drew).set HS.out HRr.out hlt3 rfl _⟩, ?_, ?_⟩
                · intro x y r hx hr hy
                  show (if x = k ∧ y = b then _ else _) = _
                  rw [if_neg (by omega)]
                  exact HF3.out x y r hx hr hy
                · intro c hc
                  show (if k = k ∧ c = b then _ else _) = _
                  by_cases h : c = b
                  · rw [if_pos ⟨rfl, h⟩]
                  · rw [if_neg (by omega)]
                    exact HG3.out c (by omega)
            · have HX := hide (fun (x y : Nat) (r : Rw) (hx : x < k + 1) (hr : rows[x]? = some r) (hy : y < r.m) => show f3 x y = mk0 x s from by
                by_cases h : x = k
                · subst h
                  rw [HRr.out] at hr
                  cases hr
                  have hy : y < m := hy
                  exact HG3.out y (by omega)
                · exact HF3.out x y r (by omega) hr hy)
              clear cx cy
              go_wp2_with fail
              go_roundg (go2 - 1)
              case measure => omega
              case rel => exact ⟨k + 1, f3, by omega, by go_num, HS3, HX⟩
        · have HX := hide (show Holdx w2 rows (fun i _ => mk0 i s) from fun i r hr hm => by
            obtain ⟨g, cur, h1, h2, h3, h4⟩ := HS2.out.2 i r hr hm
            refine ⟨g, cur, h1, h2, h3, fun j hj => ?_⟩
            rw [h4 j hj, HF2.out i j r (by have := (List.getElem?_eq_some_iff.1 hr).1; have := HN.out; omega) hr hj])
          go_wp2_with fail
          refine wp_loop_rounds 1 ?_; rw [rounds_succ]; go_wp2_with fail
          refine wp_loop_rounds 1 ?_; rw [rounds_succ]; go_wp2_with fail
          clear cb cx cy
          refine (HK.out s w2 HS2.out.1 HX.out).mono ?_
          rintro e w' ⟨rfl, q, rfl⟩
          go_wp2_with fail
          go_roundg (go - 1)
          case measure => omega
          case rel => exact ⟨s + 1, fun i _ => mk0 i s, by omega, by go_num, ⟨HS2.out.1.drewN q, HX.out⟩⟩
    · go_wp2_with fail
      go_ret
      exact ⟨rfl, HS1.out.1⟩
end Go.Proofs.Ytlbnikmaafccnaa
