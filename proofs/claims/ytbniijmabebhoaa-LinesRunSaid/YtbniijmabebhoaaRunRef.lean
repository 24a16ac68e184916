/- The reference's line of layer 7: what is sent stands in one list; what each of its methods returns, and what becomes of the list. -/
import Derived.Test.YtbniijmabebhoaaLinesInt
import Derived.Test.YtbniijmabebhoaaLinesAny
import Derived.Test.YtbniijmabebhoaaLives
import Derived.Deep.LoopGhost
import Derived.Deep.RegionHeld3
import Derived.Deep.AppendLies
import Derived.Deep.RegionLaw
namespace Go.Proofs.Ytbniijmabebhoaa
open Go.RowKit
set_option linter.unusedVariables false
namespace Rn
/-- What was sent h ticks ahead of tick t. -/
def atV (l : List (Int × Bool)) (h t : Nat) : Int × Bool := if h ≤ t then l.getD (t - h) (0, false) else (0, false)
def hereV (h : Nat) (l : List (Int × Bool)) : Int × Bool := atV l h l.length
def one (p : Int × Bool) : List Int := if p.2 then [p.1] else []
def wayV (h : Nat) (l : List (Int × Bool)) : List Int := one (atV l h (l.length + 1)) ++ one (atV l h (l.length + 2))
def sendV (l : List (Int × Bool)) : List Int → List (Int × Bool)
  | [] => l ++ [(0, false)]
  | [x] => l ++ [(x, true)]
  | _ => l
def errV (m : Nat) : Int := if 1 < m then 1 else 0
def sc (l : List (Int × Bool)) : List Value := l.flatMap fun p => [.int .i64 p.1, .bool p.2]
theorem sc_len (l : List (Int × Bool)) : (sc l).length = l.length * 2 := by
  induction l with
  | nil => rfl
  | cons p r ih => simp only [sc, List.flatMap_cons, List.length_append, List.length_cons, List.length_nil] at ih ⊢; omega
theorem sc_append (l r : List (Int × Bool)) : sc (l ++ r) = sc l ++ sc r := by simp [sc]
theorem sc_at (l : List (Int × Bool)) (i : Nat) (p : Int × Bool) (h : l[i]? = some p) : (sc l)[i * 2]? = some (.int .i64 p.1) ∧ (sc l)[i * 2 + 1]? = some (.bool p.2) := by
  induction l generalizing i with
  | nil => simp at h
  | cons q r ih =>
    cases i with
    | zero => simp at h; subst h; exact ⟨rfl, rfl⟩
    | succ i =>
      have := ih i (by simpa using h)
      simp only [sc, List.flatMap_cons]
      rw [show (i + 1) * 2 = i * 2 + 1 + 1 from by omega]
      exact this
theorem atV_no {l : List (Int × Bool)} {h t : Nat} (hl : ∀ p ∈ l, p.2 = false → p.1 = 0) (h2 : (atV l h t).2 = false) : (atV l h t).1 = 0 := by
  unfold atV at *
  split
  · rename_i hh
    rw [if_pos hh] at h2
    rw [List.getD_eq_getElem?_getD] at *
    cases e : l[t - h]? with
    | none => rfl
    | some p => rw [e] at h2; exact hl p (List.mem_of_getElem? e) h2
  · rfl
/-- Nothing is kept of a gap. -/
def Gap (l : List (Int × Bool)) : Prop := ∀ p ∈ l, p.2 = false → p.1 = 0
theorem Gap.send {l : List (Int × Bool)} (h : Gap l) (xs : List Int) : Gap (sendV l xs) := by
  unfold sendV
  split
  · intro p hp hb
    rcases List.mem_append.1 hp with hp | hp
    · exact h p hp hb
    · simp at hp; subst hp; rfl
  · intro p hp hb
    rcases List.mem_append.1 hp with hp | hp
    · exact h p hp hb
    · simp at hp; subst hp; cases hb
  · exact h
end Rn
open Rn
/-- The reference's line: its struct's block B, its list. -/
def YSt (w : World) (B h : Nat) (l : List (Int × Bool)) (A : Option Addr) (c : Nat) : Prop :=
  w.heap[B]? = some (.cells #[.int .i64 h, .slice A l.length c] 56 (0, 0)) ∧ w.ownsRow (B + 1) 92 2 (.slice A l.length c) l.length (sc l)
theorem YSt.cells {w : World} {B h c : Nat} {l : List (Int × Bool)} {A : Option Addr} (Y : YSt w B h l A c) {i : Nat} {p : Int × Bool} (hp : l[i]? = some p) :
    ∃ g, A = some ⟨g, 0, none⟩ ∧ w.cell? ⟨g, i * 2, none⟩ = some (.int .i64 p.1) ∧ w.cell? ⟨g, i * 2 + 1, none⟩ = some (.bool p.2) := by
  have hi : i < l.length := (List.getElem?_eq_some_iff.1 hp).1
  rcases Y.2.2 with ⟨h0, h1⟩ | ⟨g, cap, cur, e, hb, hg, _⟩
  · omega
  · injection e with e1 _ _
    subst e1
    refine ⟨g, rfl, ?_, ?_⟩
    · rw [World.ownsRow.cellAt Y.2 (i * 2) (by omega)]; exact (sc_at l i p hp).1
    · rw [World.ownsRow.cellAt Y.2 (i * 2 + 1) (by omega)]; exact (sc_at l i p hp).2
set_option maxHeartbeats 1000000 in
theorem rat_any (B h c t : Nat) (l : List (Int × Bool)) (A : Option Addr) (w : World) (Y : YSt w B h l A c) (hn : l.length ≤ 1000) (hh : h ≤ 2) (ht : t ≤ 1000000) (hg : Gap l) :
    Calls Try.prog 36 #[.pointer (some ⟨B, 0, none⟩), .int .i64 t] w fun e w' => e = .returned (.tuple #[.int .i64 (atV l h t).1, .bool (atV l h t).2]) ∧ w = w' := by
  have c0 : w.cell? ⟨B, 0, none⟩ = some (.int .i64 h) := row_cell Y.1 0
  have c1 : w.cell? ⟨B, 1, none⟩ = some (.slice A l.length c) := row_cell Y.1 1
  have HY := hide Y
  have HG := hide hg
  clear Y hg
  obtain ⟨n, hnn⟩ : ∃ n, l.length = n := ⟨_, rfl⟩
  rw [hnn] at c1 hn
  have HN := hide hnn
  clear hnn
  by_cases h1 : t < h
  · have E := hide (show atV l h t = (0, false) from by unfold atV; rw [if_neg (by omega)])
    have hd : decide ((t : Int) - h < 0) = true := decide_eq_true (by omega)
    rw [E.out]
    go_enter Try.func36, Try.ntmps36
    go_wp2_with fail
    go_ret2
    exact ⟨rfl, rfl⟩
  · have hd : decide ((t : Int) - h < 0) = false := decide_eq_false (by omega)
    by_cases h2 : n ≤ t - h
    · have E := hide (show atV l h t = (0, false) from by
        unfold atV
        rw [if_pos (by omega), List.getD_eq_getElem?_getD, List.getElem?_eq_none (by have := HN.out; omega)]
        rfl)
      have hd2 : decide ((n : Int) ≤ (t : Int) - h) = true := decide_eq_true (by omega)
      rw [E.out]
      go_enter Try.func36, Try.ntmps36
      go_wp2_with fail
      go_ret2
      exact ⟨rfl, rfl⟩
    · have hd2 : decide ((n : Int) ≤ (t : Int) - h) = false := decide_eq_false (by omega)
      obtain ⟨p, hp⟩ : ∃ p, l[t - h]? = some p := ⟨_, List.getElem?_eq_getElem (by have := HN.out; omega)⟩
      have E : atV l h t = p := by
        unfold atV
        rw [if_pos (by omega), List.getD_eq_getElem?_getD, hp]
        rfl
      have hpm := HG.out p (List.mem_of_getElem? hp)
      obtain ⟨g, rfl, k0, k1⟩ := HY.out.cells hp
      rw [E]
      clear hp E
      obtain ⟨x, b⟩ := p
      simp only at hpm k0 k1
      obtain ⟨i, hi⟩ : ∃ i, t - h = i := ⟨_, rfl⟩
      have hti : (t : Int) - h = i := by omega
      rw [hi] at k0 k1
      cases b with
      | false =>
        obtain rfl := hpm rfl
        go_enter Try.func36, Try.ntmps36
        go_wp2_with fail
        all_goals (go_ret2; exact ⟨rfl, rfl⟩)
      | true =>
        go_enter Try.func36, Try.ntmps36
        go_wp2_with fail
        all_goals first | (go_ret2; exact ⟨rfl, rfl⟩) | (exfalso; rename_i hx; simp at hx; omega)
theorem rhere_any (B h c : Nat) (l : List (Int × Bool)) (A : Option Addr) (w : World) (Y : YSt w B h l A c) (hn : l.length ≤ 1000) (hh : h ≤ 2) (hg : Gap l) :
    Calls Try.prog 15 #[.pointer (some ⟨B, 0, none⟩)] w fun e w' => e = .returned (.tuple #[.int .i64 (hereV h l).1, .bool (hereV h l).2]) ∧ w = w' := by
  have AT := hide (rat_any B h c l.length l A w Y hn hh (by omega) hg)
  have c1 : w.cell? ⟨B, 1, none⟩ = some (.slice A l.length c) := row_cell Y.1 1
  unfold hereV
  clear Y hg
  obtain ⟨p, hp⟩ : ∃ p, atV l h l.length = p := ⟨_, rfl⟩
  rw [hp] at AT ⊢
  clear hp
  go_enter Try.func15, Try.ntmps15
  go_wp2_with fail
  refine AT.out.mono ?_
  rintro e w' ⟨rfl, rfl⟩
  go_wp2_with fail
  go_ret2
  exact ⟨rfl, rfl⟩
theorem infoB3 : (Try.prog.info? 3).map (fun i => (i.zero, i.size, i.bytes)) = some (some (.int .i64 0), 1, 8) := by kernel_rfl
theorem infoB92 : (Try.prog.info? 92).map (fun i => (i.zero, i.size, i.bytes)) = some (some (.agg #[.int .i64 0, .bool false]), 2, 16) := by kernel_rfl
/-- A slice of numbers in memory from base on. -/
def IntRow (w : World) (base : Nat) (A : Option Addr) (xs : List Int) : Prop :=
  (A = none ∧ xs = []) ∨ ∃ g cur, A = some ⟨g, 0, none⟩ ∧ base ≤ g ∧ w.heap[g]? = some (.cells cur 3 (0, 0)) ∧ xs.length ≤ cur.size ∧ cur.toList.take xs.length = xs.map (.int .i64)
theorem own_int {w : World} {base n : Nat} {v : Value} {xs : List Int} (h : w.ownsRow base 3 1 v n (xs.map (.int .i64))) : ∃ A c, v = .slice A xs.length c ∧ xs.length ≤ c ∧ c ≤ maxLen ∧ IntRow w base A xs ∧ n = xs.length := by
  have hl : n = xs.length := by have := h.1; simp at this; exact this.symm
  subst hl
  rcases h.2 with ⟨rfl, h0⟩ | ⟨g, cap, cur, rfl, hb, hg, hc, hm, hs, ht⟩
  · exact ⟨none, 0, by rw [h0], by omega, by omega, .inl ⟨rfl, List.eq_nil_of_length_eq_zero h0⟩, rfl⟩
  · exact ⟨_, cap, rfl, hc, hm, .inr ⟨g, cur, rfl, hb, hg, by omega, by simpa using ht⟩, rfl⟩
set_option maxRecDepth 100000 in
set_option maxHeartbeats 1000000 in
theorem rway_any (B h c : Nat) (l : List (Int × Bool)) (A : Option Addr) (w : World) (Y : YSt w B h l A c) (hn : l.length ≤ 1000) (hh : h ≤ 2) (hg : Gap l) :
    Calls Try.prog 18 #[.pointer (some ⟨B, 0, none⟩)] w fun e w' => (∃ A' c', e = .returned (.slice A' (wayV h l).length c') ∧ IntRow w' w.heap.size A' (wayV h l)) ∧ Below w.heap.size w w' := by
  obtain ⟨i0, hi, hz0, hz1, hz2⟩ := info_parts infoB3
  have hlt := lt_of_blk Y.1
  have hA1 := hide (fun (k : Nat) (hk : k ≤ 2) (W : World) (hb : Below w.heap.size w W) (hY : YSt W B h l A c) => rat_any B h c (l.length + k) l A W hY hn hh (by omega) hg)
  have c1 : w.cell? ⟨B, 1, none⟩ = some (.slice A l.length c) := row_cell Y.1 1
  have HY := hide Y
  have A1 := hide (hA1.out 1 (by omega) w (Below.refl _ _) Y)
  have HW := hide (fun (W : World) (hb : Below w.heap.size w W) => (show YSt W B h l A c from ⟨(hb.block B hlt).trans Y.1, Y.2.1, by
    rcases Y.2.2 with h0 | ⟨g, cap, cur, e, hbg, hgg, hr⟩
    · exact .inl h0
    · exact .inr ⟨g, cap, cur, e, hbg, (hb.block g (lt_of_blk hgg)).trans hgg, hr⟩⟩))
  have hw : wayV h l = one (atV l h (l.length + 1)) ++ one (atV l h (l.length + 2)) := rfl
  obtain ⟨n, hnn⟩ : ∃ n, l.length = n := ⟨_, rfl⟩
  rw [hnn] at c1 hn A1 hw
  have A2 := hide (fun (W : World) (hb : Below w.heap.size w W) => hA1.out 2 (by omega) W hb (HW.out W hb))
  rw [hnn] at A2
  obtain ⟨L, hL⟩ : ∃ L, wayV h l = L := ⟨_, rfl⟩
  rw [hL] at hw ⊢
  have HN := hide hnn
  clear hL hnn Y hg hA1
  obtain ⟨p, hp⟩ : ∃ p, atV l h (n + 1) = p := ⟨_, rfl⟩
  obtain ⟨q, hq⟩ : ∃ q, atV l h (n + 2) = q := ⟨_, rfl⟩
  rw [hp] at A1 hw
  rw [hq] at A2 hw
  have hq0 : q = (0, false) := by
    rw [← hq]
    unfold atV
    rw [if_pos (by omega), List.getD_eq_getElem?_getD, List.getElem?_eq_none (by have := HN.out; omega)]
    rfl
  clear hp hq
  have HQ := hide hw
  clear hw
  subst hq0
  obtain ⟨x, b⟩ := p
  cases b
  · have HL := hide (show ([] : List Int) = L from HQ.out.symm)
    go_enter Try.func18, Try.ntmps18
    go_wp2_with fail
    refine wp_loop_rounds 3 ?_; rw [rounds_succ]; go_wp2_with fail
    refine A1.out.mono ?_
    rintro e w' ⟨rfl, rfl⟩
    go_wp2_with fail
    rw [rounds_succ]; go_wp2_with fail
    refine (A2.out _ (Below.refl _ _)).mono ?_
    rintro e w' ⟨rfl, rfl⟩
    go_wp2_with fail
    rw [rounds_succ]; go_wp2_with fail
    go_ret
    exact ⟨⟨none, 0, by rw [← HL.out]; rfl, .inl ⟨rfl, HL.out.symm⟩⟩, Below.refl _ _⟩
  · have HL := hide (show [x] = L from HQ.out.symm)
    go_enter Try.func18, Try.ntmps18
    go_wp2_with fail
    refine wp_loop_rounds 3 ?_; rw [rounds_succ]; go_wp2_with fail
    refine A1.out.mono ?_
    rintro e w' ⟨rfl, rfl⟩
    go_wp2_with (at_builtin; refine wpList_append_sl _ rfl _ _ 41 rfl w.heap.size 3 i0 (.int .i64 0) 1 8 Try.underlying41 hi hz0 hz1 hz2 rfl (by decide) (.slice none 0 0) 0 [] rfl (World.ownsRow_nil _ _ _ _) _ _ 1 1 [.int .i64 x] rfl rfl (Sl.one (cell_new' _ #[.int .i64 x] 3 (0, 0) 0 _ (by simp))) (by simp [Value.oneCell']) (by unfold maxLen; omega) (by omega) (by simp) ?_; intro v1 w1 hown1 hg1 hat1; obtain ⟨A1', c1', hv0, q1, q2, hir, q3⟩ := own_int (xs := [x]) hown1; have hv1 : v1 = .slice A1' 1 c1' := hv0; clear hv0 q1 q2 q3; have HI := hide hir; have HB := hide (((Below.refl w.heap.size w).alloc (Nat.le_refl _) (.cells #[.int .i64 x] 3)).grown hg1 (by simp) (by simp [Value.ownBlock])); clear hown1 hg1 hat1 hir; rw [hv1])
    have hc1' := (HB.out.cell (p := ⟨B, 1, none⟩) hlt).trans c1
    rw [rounds_succ]; go_wp2_with fail
    refine (A2.out _ HB.out).mono ?_
    rintro e w' ⟨rfl, rfl⟩
    go_wp2_with fail
    rw [rounds_succ]; go_wp2_with fail
    go_ret
    exact ⟨⟨A1', c1', by rw [← HL.out]; rfl, by rw [← HL.out]; exact HI.out⟩, HB.out⟩

theorem own_far2 {S : Nat → Prop} {w w' : World} {base n size : Nat} {e : TypeId} {v : Value} {xs : List Value} (h : w.ownsRow base e size v n xs) (hf : Far S w w') (hR : ∀ g, v.ownBlock = some g → ¬ S g) : w'.ownsRow base e size v n xs := by
  refine ⟨h.1, ?_⟩
  rcases h.2 with h0 | ⟨g, cap, cur, e, hb, hg, hr⟩
  · exact .inl h0
  · exact .inr ⟨g, cap, cur, e, hb, (hf.block g (lt_of_blk hg) (hR g (by rw [e]; rfl))).trans hg, hr⟩
theorem far_grown2 {S : Nat → Prop} {w w1 w2 : World} {row : Option Nat} (h : Far S w w1) (hg : w1.grownBy w2 row) (hr : ∀ g, row = some g → S g ∨ w.heap.size ≤ g) : Far S w w2 :=
  ⟨hg.os.trans h.os, hg.tape.trans h.tape, hg.output.trans h.output, Nat.le_trans h.size hg.size, fun k hk hn => (hg.block k (Nat.lt_of_lt_of_le hk h.size) (fun e => by
    rcases hr k e.symm with h1 | h1
    · exact hn h1
    · omega)).trans (h.block k hk hn)⟩
theorem YSt.ge {w : World} {B h c : Nat} {l : List (Int × Bool)} {A : Option Addr} (Y : YSt w B h l A c) : ∀ g, (Value.slice A l.length c).ownBlock = some g → B + 1 ≤ g ∧ g < w.heap.size := fun g hg => World.ownsRow.lt Y.2 g hg
theorem YSt.far {S : Nat → Prop} {w w' : World} {B h c : Nat} {l : List (Int × Bool)} {A : Option Addr} (Y : YSt w B h l A c) (hf : Far S w w') (hB : ¬ S B) (hR : ∀ g, (Value.slice A l.length c).ownBlock = some g → ¬ S g) : YSt w' B h l A c :=
  ⟨(hf.block B (lt_of_blk Y.1) hB).trans Y.1, own_far2 Y.2 hf hR⟩
/-- What a sending of the reference leaves: its list is one longer. -/
def Sent (w w' : World) (B h : Nat) (l : List (Int × Bool)) (A : Option Addr) (c : Nat) (l' : List (Int × Bool)) : Prop :=
  ∃ A' c', YSt w' B h l' A' c' ∧ ((Value.slice A' l'.length c').ownBlock = (Value.slice A l.length c).ownBlock ∨ ∃ g, (Value.slice A' l'.length c').ownBlock = some g ∧ w.heap.size ≤ g) ∧
    Far (fun k => k = B ∨ (Value.slice A l.length c).ownBlock = some k) w w'
theorem rsend_many (B h c m cx : Nat) (Ax : Option Addr) (l : List (Int × Bool)) (A : Option Addr) (w : World) (hm : 1 < m) (hm' : m ≤ 1000) (Y : YSt w B h l A c) :
    Calls Try.prog 23 #[.pointer (some ⟨B, 0, none⟩), .slice Ax m cx] w fun e w' => e = .returned (.int .i64 1) ∧ Sent w w' B h l A c l := by
  have h1 : (1 : Int) < m := by omega
  have HS := hide (show Sent w w B h l A c l from ⟨A, c, Y, .inl rfl, Far.refl _ _⟩)
  clear Y
  go_enter Try.func23, Try.ntmps23
  go_wp2_with fail
  go_ret
  exact ⟨rfl, HS.out⟩
/-- The last steps of a sending: the grown list is stored. -/
theorem sent_of {w w0 w1 : World} {B h c g1 cap : Nat} {l : List (Int × Bool)} {A : Option Addr} {p : Int × Bool} (Y : YSt w B h l A c) (hF : Far (fun k => k = B ∨ (Value.slice A l.length c).ownBlock = some k) w w0) (hz : w0.heap.size ≤ w.heap.size + 1)
    (h0 : w0.heap[B]? = w.heap[B]?) (hown : w1.ownsRow (B + 1) 92 2 (.slice (some ⟨g1, 0, none⟩) (l.length + 1) cap) (l.length + 1) (sc l ++ [.int .i64 p.1, .bool p.2])) (hg : w0.grownBy w1 (Value.slice A l.length c).ownBlock)
    (hat : (Value.slice A l.length c).ownBlock = some g1 ∨ g1 = w.heap.size + 1) : Sent w (w1.setCell ⟨B, 1, none⟩ (.slice (some ⟨g1, 0, none⟩) (l.length + 1) cap)) B h l A c (l ++ [p]) := by
  have F1 := far_grown2 hF hg (fun g hg => .inl (.inr hg))
  have hge := Y.ge
  have hlt := lt_of_blk Y.1
  have hB1 : w1.heap[B]? = some (.cells #[.int .i64 h, .slice A l.length c] 56 (0, 0)) :=
    (hg.block B (Nat.lt_of_lt_of_le hlt hF.size) (fun e => by have := hge B e.symm; omega)).trans (h0.trans Y.1)
  have hl : (l ++ [p]).length = l.length + 1 := by simp
  refine ⟨some ⟨g1, 0, none⟩, cap, ⟨?_, ?_⟩, ?_, F1.setCell (.inl (.inl rfl)) _⟩
  · rw [hl]
    exact row_set hB1 1 _
  · have := own_far2 hown ((Far.refl (fun k => k = B) w1).setCell (p := ⟨B, 1, none⟩) (.inl rfl) (.slice (some ⟨g1, 0, none⟩) (l.length + 1) cap)) (fun g hg e => by
      have := (World.ownsRow.lt hown g hg).1
      omega)
    rw [hl, sc_append]
    exact this
  · rw [hl]
    rcases hat with h | h
    · exact .inl (by rw [h]; rfl)
    · exact .inr ⟨g1, rfl, by omega⟩
set_option maxRecDepth 100000 in
set_option maxHeartbeats 2000000 in
theorem rsend_none (B h c cx : Nat) (Ax : Option Addr) (l : List (Int × Bool)) (A : Option Addr) (w : World) (hn : l.length ≤ 1000) (Y : YSt w B h l A c) :
    Calls Try.prog 23 #[.pointer (some ⟨B, 0, none⟩), .slice Ax 0 cx] w fun e w' => e = .returned (.int .i64 0) ∧ Sent w w' B h l A c (l ++ [(0, false)]) := by
  obtain ⟨i0, hi, hz0, hz1, hz2⟩ := info_parts infoB92
  have hlt := lt_of_blk Y.1
  have c1 : w.cell? ⟨B, 1, none⟩ = some (.slice A l.length c) := row_cell Y.1 1
  have f1 : w.frozen? ⟨B, 1, none⟩ = false := row_free Y.1 1
  have HO := hide (Y.2.alloc (.cells #[.int .i64 0, .bool false] 92))
  have FIN := hide (fun (g1 cap : Nat) (w1 : World) hown hg hat => sent_of (w0 := w.alloc (.cells #[.int .i64 0, .bool false] 92)) (w1 := w1) (g1 := g1) (cap := cap) (p := (0, false)) Y ((Far.refl _ w).alloc _) (by simp) (Below.heap_alloc w _ B hlt) hown hg hat)
  have HB1 := hide (fun (w1 : World) (hg : (w.alloc (.cells #[.int .i64 0, .bool false] 92)).grownBy w1 (Value.slice A l.length c).ownBlock) => (hg.block B (by simp; omega) (fun e => by have := Y.ge B e.symm; omega)).trans ((Below.heap_alloc w _ B hlt).trans Y.1))
  obtain ⟨n, hnn⟩ : ∃ n, l.length = n := ⟨_, rfl⟩
  rw [hnn] at c1 hn HO FIN HB1
  clear hnn Y
  go_enter Try.func23, Try.ntmps23
  go_wp2_with (at_builtin; refine wpList_append_lies _ rfl _ _ 54 rfl (B + 1) 92 i0 (.agg #[.int .i64 0, .bool false]) 2 16 Try.underlying54 hi hz0 hz1 hz2 rfl (by decide) (.slice A n c) n (sc l) rfl HO.out ⟨w.heap.size, 0, none⟩ 1 1 [.int .i64 0, .bool false] rfl rfl (World.news_of_block (heap_alloc_new w (.cells #[.int .i64 0, .bool false] 92))) (by simp [Value.oneCell']) (by omega) (by unfold maxLen; omega) (by omega) (by simp; omega) (w.heap.size + 1) (by simp) ?_; intro g1 cap w1 hown1 hg1 hat1 hlt1; have H1 := hide (HB1.out w1 hg1); have c1' := row_cell H1.out 1; have f1' := row_free H1.out 1; have HO1 := hide hown1; have HG1 := hide hg1; have HA1 := hide hat1; clear hown1 hg1 hat1 c1 f1 hlt1)
  go_ret
  exact ⟨rfl, FIN.out g1 cap w1 HO1.out HG1.out HA1.out⟩

set_option maxRecDepth 100000 in
set_option maxHeartbeats 4000000 in
theorem rsend_one (B h c cx : Nat) (ad : Addr) (x : Int) (l : List (Int × Bool)) (A : Option Addr) (w : World) (hn : l.length ≤ 1000) (Y : YSt w B h l A c) (hx : w.cell? ad = some (.int .i64 x)) (hne : ad.block ≠ B) (hne' : ∀ g, (Value.slice A l.length c).ownBlock = some g → ad.block ≠ g) :
    Calls Try.prog 23 #[.pointer (some ⟨B, 0, none⟩), .slice (some ad) 1 cx] w fun e w' => e = .returned (.int .i64 0) ∧ Sent w w' B h l A c (l ++ [(x, true)]) := by
  obtain ⟨i0, hi, hz0, hz1, hz2⟩ := info_parts infoB92
  have hlt := lt_of_blk Y.1
  have hla := lt_of_cell hx
  have c1 : w.cell? ⟨B, 1, none⟩ = some (.slice A l.length c) := row_cell Y.1 1
  have f1 : w.frozen? ⟨B, 1, none⟩ = false := row_free Y.1 1
  have HO := hide (Y.2.alloc (.cells #[.int .i64 x, .bool true] 92))
  have FIN := hide (fun (g1 cap : Nat) (w1 : World) hown hg hat => sent_of (w0 := (w.alloc (.cells #[.int .i64 x, .bool true] 92)).drew) (w1 := w1) (g1 := g1) (cap := cap) (p := (x, true)) Y (((Far.refl _ w).alloc _).drew) (by show _ ≤ _; simp) (Below.heap_alloc w _ B hlt) hown hg hat)
  have HB1 := hide (fun (w1 : World) (hg : (w.alloc (.cells #[.int .i64 x, .bool true] 92)).drew.grownBy w1 (Value.slice A l.length c).ownBlock) => (hg.block B (by show B < (w.alloc _).heap.size; simp; omega) (fun e => by have := Y.ge B e.symm; omega)).trans ((Below.heap_alloc w _ B hlt).trans Y.1))
  have HX := hide (fun (w1 : World) (hg : (w.alloc (.cells #[.int .i64 x, .bool true] 92)).drew.grownBy w1 (Value.slice A l.length c).ownBlock) => (hg.cell_far ad (by show ad.block < (w.alloc _).heap.size; simp; omega) (fun e => hne' _ e.symm rfl)).trans ((World.cell?_alloc_lt w _ ad hla).trans hx))
  have hx2 : ∀ o, (w.alloc o).cell? ad = some (.int .i64 x) := fun o => (World.cell?_alloc_lt w o ad hla).trans hx
  obtain ⟨n, hnn⟩ : ∃ n, l.length = n := ⟨_, rfl⟩
  rw [hnn] at c1 hn HO FIN HB1 HX
  clear hnn Y hne'
  go_enter Try.func23, Try.ntmps23
  go_wp2_with fail
  go_region_law ((refine step_append_lies _ (by rfl) _ _ 54 (by rfl) (B + 1) 92 i0 (.agg #[.int .i64 0, .bool false]) 2 16 Try.underlying54 hi hz0 hz1 hz2 (by rfl) (by decide) (.slice A n c) n (sc l) (by rfl) (show World.ownsRow (World.drew _) _ _ _ _ _ _ from HO.out) ⟨w.heap.size, 0, none⟩ 1 1 [.int .i64 x, .bool true] (by rfl) (by rfl) (World.news_of_block (heap_alloc_new w (.cells #[.int .i64 x, .bool true] 92))) (by simp [Value.oneCell']) (by omega) (by unfold maxLen; omega) (by omega) (by simp; omega) (w.heap.size + 1) (by simp) ?_; intro g1 cap w1 hown1 hg1 hat1 hlt1; have H1 := hide (HB1.out w1 hg1); have c1' := row_cell H1.out 1; have f1' := row_free H1.out 1))
  all_goals
    go_wp2_with fail
    go_ret
    exact ⟨rfl, FIN.out _ _ _ hown1 hg1 hat1⟩
/-- Whatever is sent, one thing, none, or too many. -/
theorem rsend_any (B h c m cx : Nat) (Ax : Option Addr) (xs : List Int) (l : List (Int × Bool)) (A : Option Addr) (w : World) (hn : l.length ≤ 1000) (Y : YSt w B h l A c) (hm : xs.length = m) (hm' : m ≤ 1000)
    (hx : Sl w w.heap.size Ax (xs.map (.int .i64))) (hs : ∀ ad, Ax = some ad → 0 < m → ad.block ≠ B ∧ ∀ g, (Value.slice A l.length c).ownBlock = some g → ad.block ≠ g) :
    Calls Try.prog 23 #[.pointer (some ⟨B, 0, none⟩), .slice Ax m cx] w fun e w' => e = .returned (.int .i64 (errV m)) ∧ Sent w w' B h l A c (sendV l xs) := by
  match xs, hm with
  | [], hm =>
    subst hm
    exact rsend_none B h c cx Ax l A w hn Y
  | [x], hm =>
    subst hm
    obtain ⟨ad, rfl, _, hc⟩ := hx 0 _ rfl
    have e : ad.add 0 = ad := by cases ad; unfold Addr.add; split <;> simp_all
    rw [e] at hc
    obtain ⟨h1, h2⟩ := hs ad rfl (by simp)
    exact rsend_one B h c cx ad x l A w hn Y hc h1 h2
  | x :: y :: r, hm =>
    have h1 : 1 < m := by rw [← hm]; simp
    have := rsend_many B h c m cx Ax l A w h1 hm' Y
    unfold errV
    rw [if_pos h1]
    exact this
theorem rnew_good (h : Int) (w : World) (hh : h = 1 ∨ h = 2) : Calls Try.prog 13 #[.int .i64 h] w fun e w' => ∃ B, e = .returned (.tuple #[.pointer (some ⟨B, 0, none⟩), .int .i64 0]) ∧ YSt w' B h.toNat [] none 0 ∧ w.heap.size ≤ B ∧ Far (fun _ => False) w w' := by
  rcases hh with rfl | rfl
  all_goals
    go_enter Try.func13, Try.ntmps13
    go_wp2_with fail
    go_ret2
    refine ⟨_, rfl, ⟨heap_alloc_new w _, World.ownsRow_nil _ _ _ _⟩, Nat.le_refl _, (Far.refl _ w).alloc _⟩
theorem rnew_bad (h : Int) (w : World) (hb : h < 1 ∨ 2 < h) : Calls Try.prog 13 #[.int .i64 h] w fun e w' => e = .returned (.tuple #[.pointer none, .int .i64 1]) ∧ w = w' := by
  have h1 : (h != 1) = true := by simp; omega
  have h2 : (h != 2) = true := by simp; omega
  go_enter Try.func13, Try.ntmps13
  go_wp2_with fail
  go_ret2
  exact ⟨rfl, rfl⟩
end Go.Proofs.Ytbniijmabebhoaa
