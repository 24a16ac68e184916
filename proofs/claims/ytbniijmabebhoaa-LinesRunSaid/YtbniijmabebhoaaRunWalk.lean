/- The walk of LinesRun: whatever is sent, the program's line and the chapter's answer alike; nothing is shared; nothing that was there has turned. -/
import Derived.Test.YtbniijmabebhoaaRunX
import Derived.Test.YtbniijmabebhoaaBookWords
import Derived.Deep.RegionHeld3
namespace Go.Proofs.Ytbniijmabebhoaa
open Go.RowKit Rn Bk
set_option linter.unusedVariables false
set_option linter.unusedSimpArgs false
section
variable {w w' : World} {base : Nat} {A : Option Addr} {xs : List Int}
theorem IntRow.hold (h : IntRow w base A xs) (hm : 0 < xs.length) : ∃ g cur, A = some ⟨g, 0, none⟩ ∧ base ≤ g ∧ w.heap[g]? = some (.cells cur 3 (0, 0)) ∧ xs.length ≤ cur.size ∧ ∀ j, j < xs.length → cur[j]? = some (.int .i64 (xs.getD j 0)) := by
  rcases h with ⟨rfl, rfl⟩ | ⟨g, cur, rfl, h1, h2, h3, h4⟩
  · simp at hm
  · refine ⟨g, cur, rfl, h1, h2, h3, fun j hj => ?_⟩
    have : (cur.toList.take xs.length)[j]? = (xs.map (Value.int .i64))[j]? := by rw [h4]
    rw [List.getElem?_take, if_pos hj, List.getElem?_map, List.getElem?_eq_getElem hj] at this
    simp at this
    rw [this, List.getD_eq_getElem?_getD, List.getElem?_eq_getElem hj]
    rfl
theorem IntRow.sl (h : IntRow w base A xs) : Sl w w.heap.size A (xs.map (.int .i64)) := by
  rcases h with ⟨rfl, rfl⟩ | ⟨g, cur, rfl, h1, h2, h3, h4⟩
  · exact Sl.nil
  · intro k u hu
    refine ⟨_, rfl, lt_of_blk h2, ?_⟩
    have e : (⟨g, 0, none⟩ : Addr).add k = ⟨g, k, none⟩ := by unfold Addr.add; split <;> simp_all
    rw [e, row_cell h2 k, ← hu, ← h4]
    have hk : k < xs.length := by have := (List.getElem?_eq_some_iff.1 hu).1; simpa using this
    rw [List.getElem?_take, if_pos hk]
    simp
theorem IntRow.lt {g : Nat} (h : IntRow w base A xs) (hA : A = some ⟨g, 0, none⟩) : base ≤ g ∧ g < w.heap.size := by
  rcases h with ⟨h, _⟩ | ⟨g', cur, e, h1, h2, h3⟩
  · rw [h] at hA; cases hA
  · rw [hA] at e
    cases e
    exact ⟨h1, lt_of_blk h2⟩
theorem IntRow.far {S : Nat → Prop} (h : IntRow w base A xs) (hf : Far S w w') (hn : ∀ g, A = some ⟨g, 0, none⟩ → ¬ S g) : IntRow w' base A xs := by
  rcases h with h | ⟨g, cur, e, h1, h2, h3⟩
  · exact .inl h
  · exact .inr ⟨g, cur, e, h1, (hf.block g (lt_of_blk h2) (hn g e)).trans h2, h3⟩
end
theorem two_hold {w : World} {b b' m : Nat} {A A' : Option Addr} {L : List Int} (hm : L.length = m) (R : IntRow w b A L) (R' : IntRow w b' A' L) : Holdx w [⟨A, m⟩, ⟨A', m⟩] (fun _ j => L.getD j 0) := by
  subst hm
  intro i r hr hm
  match i, hr with
  | 0, hr =>
    cases hr
    obtain ⟨g, cur, h1, _, h2, h3, h4⟩ := R.hold hm
    exact ⟨g, cur, h1, h2, h3, h4⟩
  | 1, hr =>
    cases hr
    obtain ⟨g, cur, h1, _, h2, h3, h4⟩ := R'.hold hm
    exact ⟨g, cur, h1, h2, h3, h4⟩
theorem two_sep' {B m m' : Nat} {v : Value} {A A' : Option Addr} (h1 : ∀ g, A = some ⟨g, 0, none⟩ → g ≠ B ∧ v.ownBlock ≠ some g) (h2 : ∀ g, A' = some ⟨g, 0, none⟩ → g ≠ B ∧ v.ownBlock ≠ some g) (h12 : ∀ g, A = some ⟨g, 0, none⟩ → A' = some ⟨g, 0, none⟩ → False) : Sepx B v [⟨A, m⟩, ⟨A', m'⟩] := by
  refine ⟨fun i r g hr hm hA => ?_, fun i j r s g hr hs hm hm' e e' => ?_⟩
  · match i, hr with
    | 0, hr => cases hr; exact h1 g hA
    | 1, hr => cases hr; exact h2 g hA
  · match i, j, hr, hs with
    | 0, 0, _, _ => rfl
    | 1, 1, _, _ => rfl
    | 0, 1, hr, hs => cases hr; cases hs; exact (h12 g e e').elim
    | 1, 0, hr, hs => cases hr; cases hs; exact (h12 g e' e).elim
theorem two_blk {b d m m' k : Nat} {A A' : Option Addr} (h : Blk [⟨A, m⟩, ⟨A', m'⟩] k) (h1 : ∀ g, A = some ⟨g, 0, none⟩ → b ≤ g ∧ g < d) (h3 : ∀ g, A' = some ⟨g, 0, none⟩ → b ≤ g ∧ g < d) : b ≤ k ∧ k < d := by
  obtain ⟨i, r, hr, _, hA⟩ := h
  match i, hr with
  | 0, hr => cases hr; exact h1 k hA
  | 1, hr => cases hr; exact h3 k hA
theorem far_of_below {a b : World} (h : Below a.heap.size a b) : Far (fun _ => False) a b := ⟨h.os, h.tape, h.output, h.size, fun k hk _ => h.block k hk⟩
/-- What stands while the last test of a round is gone through. -/
structure RS (w : World) (Bx Rx By g h m ci : Nat) (p : Addr) (Ai : Option Addr) (xs : List Int) (lx ly : List (Int × Bool)) (A : Option Addr) (c : Nat) (W : World) : Prop where
  x : XSt W Bx Rx h lx
  y : YSt W By h ly A c
  t : Twin W g xs
  hd : W.cell? p = some (.slice Ai m ci)
  sl : Sl W w.heap.size Ai (xs.map (.int .i64))
  bel : Below w.heap.size w W
  ub : ∀ k, (Value.slice A ly.length c).ownBlock = some k → k ≠ g
/-- What never turns: where the blocks lie. -/
structure Stat (w : World) (Bx Rx By g h m : Nat) (p : Addr) (xs : List Int) : Prop where
  hh : h = 1 ∨ h = 2
  hm : xs.length = m
  hm' : m ≤ 100
  b1 : w.heap.size ≤ Bx
  b2 : w.heap.size ≤ Rx
  b3 : Bx < By
  b4 : Rx < By
  b5 : By < g
  pb : p.block < w.heap.size
section
variable {w W : World} {Bx Rx By g h m ci : Nat} {p : Addr} {Ai : Option Addr} {xs : List Int} {lx ly : List (Int × Bool)} {A : Option Addr} {c : Nat}
theorem RS.far {S : Nat → Prop} {W' : World} (H : RS w Bx Rx By g h m ci p Ai xs lx ly A c W) (T : Stat w Bx Rx By g h m p xs) (hf : Far S W W') (hs : ∀ k, S k → w.heap.size ≤ k) (h1 : ¬ S Bx) (h2 : ¬ S Rx) (h3 : ¬ S By) (h4 : ∀ k, (Value.slice A ly.length c).ownBlock = some k → ¬ S k) (h5 : ¬ S g) :
    RS w Bx Rx By g h m ci p Ai xs lx ly A c W' :=
  ⟨H.x.far hf h1 h2, H.y.far hf h3 h4, H.t.far hf h5, cell_far hf H.hd (fun e => by have := hs _ e; have := T.pb; omega), H.sl.keep (fun q hq => World.cell?_of_block (hf.block q.block (Nat.lt_of_lt_of_le hq H.bel.size) (fun e => by have := hs _ e; omega))), Far.below H.bel hf H.bel.size hs, H.ub⟩
theorem RS.drew (H : RS w Bx Rx By g h m ci p Ai xs lx ly A c W) : RS w Bx Rx By g h m ci p Ai xs lx ly A c W.drew := ⟨H.x, H.y, H.t, H.hd, H.sl, H.bel.drew, H.ub⟩
theorem RS.hy (H : RS w Bx Rx By g h m ci p Ai xs lx ly A c W) : W.cell? ⟨By, 1, none⟩ = some (.slice A ly.length c) := row_cell H.y.1 1
theorem RS.sl' (H : RS w Bx Rx By g h m ci p Ai xs lx ly A c W) : Sl W W.heap.size Ai (xs.map (.int .i64)) := H.sl.more H.bel.size
theorem st_ticks (T : Stat w Bx Rx By g h m p xs) (H : RS w Bx Rx By g h m ci p Ai xs lx ly A c W) :
    Calls Try.prog 24 #[.pointer (some ⟨Bx, 0, none⟩)] W fun e w' => e = .returned (.int .i64 lx.length) ∧ w'.cell? p = some (.slice Ai m ci) ∧ w'.cell? ⟨By, 1, none⟩ = some (.slice A ly.length c) ∧ RS w Bx Rx By g h m ci p Ai xs lx ly A c w' :=
  (xticks_any Bx Rx h lx W T.hh H.x).mono fun e w' ⟨he, hw⟩ => ⟨he, by rw [← hw]; exact H.hd, by rw [← hw]; exact H.hy, by rw [← hw]; exact H⟩
theorem st_left {cap : Nat} (hc : m + 2 ≤ cap) (hc' : cap ≤ maxLen) (T : Stat w Bx Rx By g h m p xs) (H : RS w Bx Rx By g h m ci p Ai xs lx ly A c W) :
    Calls Try.prog 25 #[.slice (some ⟨g, 0, none⟩) m cap, .slice Ai m ci] W fun e w' => e = .returned (.bool true) ∧ w'.cell? p = some (.slice Ai m ci) ∧ w'.cell? ⟨By, 1, none⟩ = some (.slice A ly.length c) ∧ RS w Bx Rx By g h m ci p Ai xs lx ly A c w' :=
  (left_any Ai g m cap ci xs W T.hm (by have := T.hm'; omega) hc hc' H.t H.sl').mono fun e w' ⟨he, q, hw⟩ => by
    have H' := H.far T ((Far.refl (fun _ => False) W).drewN q) (fun k h => h.elim) (fun h => h) (fun h => h) (fun h => h) (fun k _ h => h) (fun h => h)
    rw [hw]
    exact ⟨he, H'.hd, H'.hy, H'⟩
theorem st_sendx {cap : Nat} (hn : lx.length ≤ 1000) (T : Stat w Bx Rx By g h m p xs) (H : RS w Bx Rx By g h m ci p Ai xs lx ly A c W) :
    Calls Try.prog 22 #[.pointer (some ⟨Bx, 0, none⟩), .slice (some ⟨g, 0, none⟩) m cap] W fun e w' => e = .returned (.int .i64 (errV m)) ∧ w'.cell? p = some (.slice Ai m ci) ∧ w'.cell? ⟨By, 1, none⟩ = some (.slice A ly.length c) ∧ RS w Bx Rx By g h m ci p Ai xs (sendV lx xs) ly A c w' :=
  (xsend_any Bx Rx h m cap (some ⟨g, 0, none⟩) xs lx W T.hh hn H.x T.hm H.t.sl).mono fun e w' ⟨he, hx, hf⟩ => by
    have hge := H.y.ge
    have b1 := T.b1; have b2 := T.b2; have b3 := T.b3; have b4 := T.b4; have b5 := T.b5
    have H' : RS w Bx Rx By g h m ci p Ai xs (sendV lx xs) ly A c w' := ⟨hx, H.y.far hf (by omega) (fun k hk => by have := hge k hk; omega), H.t.far hf (by omega), cell_far hf H.hd (fun e => by have := T.pb; omega),
      H.sl.keep (fun q hq => World.cell?_of_block (hf.block q.block (Nat.lt_of_lt_of_le hq H.bel.size) (by omega))), Far.below H.bel hf H.bel.size (by rintro k (rfl | rfl) <;> omega), H.ub⟩
    exact ⟨he, H'.hd, H'.hy, H'⟩
theorem st_sendy (hn : ly.length ≤ 1000) (T : Stat w Bx Rx By g h m p xs) (H : RS w Bx Rx By g h m ci p Ai xs lx ly A c W) :
    Calls Try.prog 23 #[.pointer (some ⟨By, 0, none⟩), .slice Ai m ci] W fun e w' => e = .returned (.int .i64 (errV m)) ∧ ∃ A' c', w'.cell? p = some (.slice Ai m ci) ∧ w'.cell? ⟨By, 1, none⟩ = some (.slice A' (sendV ly xs).length c') ∧ RS w Bx Rx By g h m ci p Ai xs lx (sendV ly xs) A' c' w' := by
  have b1 := T.b1; have b2 := T.b2; have b3 := T.b3; have b4 := T.b4; have b5 := T.b5
  have hge := H.y.ge
  have hg : g < W.heap.size := by obtain ⟨cur, h1, _⟩ := H.t; exact lt_of_blk h1
  refine (rsend_any By h c m ci Ai xs ly A W hn H.y T.hm (by have := T.hm'; omega) H.sl' (fun ad had hm0 => ?_)).mono fun e w' ⟨he, A', c', hy, ho, hf⟩ => ?_
  · have h0 : 0 < (xs.map (Value.int .i64)).length := by rw [List.length_map, T.hm]; exact hm0
    obtain ⟨ad', e, hb, _⟩ := H.sl.at_ h0
    rw [had] at e
    cases e
    exact ⟨by omega, fun k hk => by have := hge k hk; omega⟩
  · have lo : ∀ k, (k = By ∨ (Value.slice A ly.length c).ownBlock = some k) → By ≤ k := fun k hk => by
      rcases hk with hk | hk
      · omega
      · have := hge k hk; omega
    have H' : RS w Bx Rx By g h m ci p Ai xs lx (sendV ly xs) A' c' w' := by
      refine ⟨H.x.far hf (fun e => by have := lo _ e; omega) (fun e => by have := lo _ e; omega), hy, H.t.far hf ?_, cell_far hf H.hd (fun e => by have := lo _ e; have := T.pb; omega),
        H.sl.keep (fun q hq => World.cell?_of_block (hf.block q.block (Nat.lt_of_lt_of_le hq H.bel.size) (fun e => by have := lo _ e; omega))), Far.below H.bel hf H.bel.size (fun k e => by have := lo _ e; omega), ?_⟩
      · rintro (e | e)
        · omega
        · exact H.ub _ e rfl
      · intro k hk
        rcases ho with ho | ⟨k', hk', hz⟩
        · rw [ho] at hk; exact H.ub k hk
        · rw [hk'] at hk; cases hk; omega
    exact ⟨he, A', c', H'.hd, H'.hy, H'⟩
end
/-- The condition on the world turns midway. -/
theorem wpAnyH_weak {P : Program} {md : Region.Mode} {ops : Array Oper} {Q : Exit → Act → World → Prop} {S1 S2 : World → Prop} (hi : ∀ w, S2 w → S1 w) : ∀ (fuel : Nat) (listed : Array Bool) (a : Act) (w : World), wpAnyH P md ops Q S2 fuel listed a w → wpAnyH P md ops Q S1 fuel listed a w
  | 0, _, _, _, h => h
  | fuel + 1, _, _, _, h => ⟨h.1, fun i hi' => wpOp_mono (fun a' w' h' => ⟨hi w' h'.1, wpAnyH_weak hi fuel _ a' w' h'.2⟩) (h.2 i hi')⟩
theorem wpAnyH_turn {P : Program} {md : Region.Mode} {ops : Array Oper} {Q : Exit → Act → World → Prop} {S1 S2 : World → Prop} {fuel : Nat} {listed : Array Bool} {a : Act} {w : World} (hi : ∀ w, S2 w → S1 w) (h2 : S2 w) (h : S2 w → wpAnyH P md ops Q S2 fuel listed a w) : wpAnyH P md ops Q S1 fuel listed a w :=
  wpAnyH_weak hi fuel listed a w (h h2)
/-- An operation that yields its value wherever the condition holds is taken first; its slot written out. -/
theorem wpAnyH_taken {P : Program} {md : Region.Mode} {ops : Array Oper} {Q : Exit → Act → World → Prop} {S : World → Prop} {i : Nat} {d : Option Tmp} {oi : Oper} {v : Value} {fuel : Nat} {listed : Array Bool} {a : Act} {w : World} (hi : ops[i]? = some oi) (hd : oi.dst = d)
    (hs : Region.noSelect ops = true) (hf : Region.free md ops listed i = true) (hr : (Region.ready md ops listed).contains i = true)
    (hQ : ∀ c a w, Q (.panic c) (a.put oi.dst v) w → Q (.panic c) a w) (hy : YieldsIf P ops S oi v a) (hS : S w)
    (h : wpAnyH P md ops Q S fuel (listed.setIfInBounds i true) (a.put d v) w) : wpAnyH P md ops Q S (fuel + 1) listed a w := by
  subst hd
  exact wpAnyH_take hi hs hf hr hQ hy hS h
theorem sendV_len (l : List (Int × Bool)) (xs : List Int) : (sendV l xs).length ≤ l.length + 1 := by
  unfold sendV
  split <;> simp
theorem xnew_ok (h : Nat) (w : World) (hh : h = 1 ∨ h = 2) : Calls Try.prog 12 #[.int .i64 h] w fun e w' => ∃ B R, e = .returned (.tuple #[.pointer (some ⟨B, 0, none⟩), .int .i64 0]) ∧ XSt w' B R h [] ∧ w.heap.size ≤ B ∧ w.heap.size ≤ R ∧ B < w'.heap.size ∧ R < w'.heap.size ∧ Far (fun _ => False) w w' := by
  rcases hh with rfl | rfl
  · exact xnew_good 1 w (.inl rfl)
  · exact xnew_good 2 w (.inr rfl)
theorem rnew_ok (h : Nat) (w : World) (hh : h = 1 ∨ h = 2) : Calls Try.prog 13 #[.int .i64 h] w fun e w' => ∃ B, e = .returned (.tuple #[.pointer (some ⟨B, 0, none⟩), .int .i64 0]) ∧ YSt w' B h [] none 0 ∧ w.heap.size ≤ B ∧ Far (fun _ => False) w w' := by
  rcases hh with rfl | rfl
  · exact rnew_good 1 w (.inl rfl)
  · exact rnew_good 2 w (.inr rfl)
/-- The i-th list of those that came in. -/
def RowAt (w : World) (ad : Addr) (i : Nat) : Prop := ∃ (Ai : Option Addr) (mi ci : Nat) (xs : List Int), w.cell? (ad.add i) = some (.slice Ai mi ci) ∧ (ad.add i).block < w.heap.size ∧ mi ≤ maxLen ∧ xs.length = mi ∧ Sl w w.heap.size Ai (xs.map (.int .i64))
theorem run_long (hop : Int) (A0 : Option Addr) (len cap : Nat) (w : World) (hl : 300 < len) (hm : len ≤ maxLen) :
    Calls Try.prog 4 #[.int .i64 hop, .slice A0 len cap] w fun e w' => e = .returned (.bool true) ∧ Below w.heap.size w w' := by
  unfold maxLen at hm
  have hl' : (300 : Int) < len := by omega
  go_enter Try.func4, Try.ntmps4
  go_wp2_with fail
  refine (lives_any _).mono ?_
  rintro e w' ⟨rfl, hb⟩
  have HB := hide hb
  clear hb
  go_wp2_with fail
  go_ret
  exact ⟨rfl, HB.out⟩
theorem run_bad (hop : Int) (A0 : Option Addr) (len cap : Nat) (w : World) (hl : len ≤ 300) (hb : hop < 1 ∨ 2 < hop) :
    Calls Try.prog 4 #[.int .i64 hop, .slice A0 len cap] w fun e w' => e = .returned (.bool true) ∧ Below w.heap.size w w' := by
  have hd : decide ((300 : Int) < len) = false := decide_eq_false (by omega)
  have N1 := hide (L_int.new_bad hop w hb)
  have N2 := hide (rnew_bad hop w hb)
  clear hb
  go_enter Try.func4, Try.ntmps4
  go_wp2_with fail
  refine N1.out.mono ?_
  rintro e w' ⟨rfl, rfl⟩
  go_wp2_with fail
  refine N2.out.mono ?_
  rintro e w' ⟨rfl, rfl⟩
  go_wp2_with fail
  refine (lives_any _).mono ?_
  rintro e w' ⟨rfl, hb⟩
  have HB := hide hb
  clear hb
  go_wp2_with fail
  go_ret
  exact ⟨rfl, HB.out⟩
set_option maxRecDepth 100000 in
set_option maxHeartbeats 20000000 in
theorem run_walk (h : Nat) (A0 : Option Addr) (len cap : Nat) (w : World) (hh : h = 1 ∨ h = 2) (hl : len ≤ 300) (hr : ∀ i, i < len → ∃ ad, A0 = some ad ∧ RowAt w ad i) :
    Calls Try.prog 4 #[.int .i64 h, .slice A0 len cap] w fun e w' => e = .returned (.bool true) ∧ Below w.heap.size w w' := by
  have hd : decide ((300 : Int) < len) = false := decide_eq_false (by omega)
  have HR := hide hr
  have HH := hide hh
  clear hr hh
  go_enter Try.func4, Try.ntmps4
  go_wp2_with fail
  refine (xnew_ok h _ HH.out).mono ?_
  rintro e w1 ⟨Bx, Rx, rfl, X1, o1, o2, z1, z2, F1⟩
  have b1 := hide (below_of_far F1)
  go_wp2_with fail
  refine (rnew_ok h _ HH.out).mono ?_
  rintro e w2 ⟨By, rfl, Y1, o3, F2⟩
  have X1 := hide (X1.far F2 (fun h => h) (fun h => h))
  have z3 := lt_of_blk Y1.1
  have Y1 := hide Y1
  have s1 := F1.size
  have b2 := hide (b1.out.trans ((below_of_far F2).mono s1))
  clear F1 F2 b1
  have o4 : Bx < By := by omega
  have o5 : Rx < By := by omega
  have o6 : w.heap.size ≤ By := by omega
  clear z1 z2 o3 s1
  go_wp2_with fail
  go_loopg [9] len (fun gk k wr => ∃ (i : Nat) (l : List (Int × Bool)) (A : Option Addr) (c : Nat), gk + i = len ∧ k = .int .i64 i ∧ l.length ≤ i ∧ Hid (Gap l) ∧ Hid (XSt wr Bx Rx h l) ∧ Hid (YSt wr By h l A c) ∧ Hid (Below w.heap.size w wr))
  case atStart => exact ⟨0, [], none, 0, rfl, rfl, by simp, fun p hp => by simp at hp, X1, Y1, b2⟩
  case round =>
    obtain ⟨i, l, A, c, hgk, rfl, hli, HG, X, Y, KB⟩ := hrel
    clear X1 Y1 b2
    by_cases hlt : i < len
    · obtain ⟨ad, rfl, Ai, mi, ci, xs, hc0, hblk, hmx, hxm, hxs⟩ := HR.out i hlt
      have HC := hide (fun (W : World) (hb : Below w.heap.size w W) => (hb.cell (p := ad.add i) hblk).trans hc0)
      have HS := hide hxs
      have HM := hide hxm
      unfold maxLen at hmx
      clear hc0 hxs hxm
      have hdi : decide ((i : Int) < len) = true := decide_eq_true (by omega)
      have hi0 : (0 : Int) ≤ i := by omega
      have hi1 : (i : Int) < len := by omega
      have cw := HC.out wr KB.out
      by_cases hm : 100 < mi
      · have hdm : decide ((100 : Int) < mi) = true := decide_eq_true (by omega)
        go_wp2_with fail
        refine (lives_any _).mono ?_
        rintro e w' ⟨rfl, hb⟩
        have HB := hide (KB.out.trans (hb.mono KB.out.size))
        clear hb
        go_wp2_with fail
        go_ret
        exact ⟨rfl, HB.out⟩
      · have hdm : decide ((100 : Int) < mi) = false := decide_eq_false (by omega)
        obtain ⟨go, hgo⟩ : ∃ x, x = gk := ⟨_, rfl⟩
        obtain ⟨w0, hw0⟩ : ∃ x, x = wr := ⟨_, rfl⟩
        subst hw0
        go_wp2_with fail
        clear cw
        go_loopg [10] 2 (fun gk t wr => ∃ s : Nat, gk + s = 2 ∧ t = .int .i64 s ∧ Hid (Far (fun _ => False) w0 wr))
        case atStart => exact ⟨0, rfl, rfl, Far.refl _ _⟩
        case round =>
          obtain ⟨s, hgs, rfl, FR⟩ := hrel
          obtain ⟨w3, hw3⟩ : ∃ x, x = wr := ⟨_, rfl⟩
          subst hw3
          by_cases hs : s < 2
          · have hds : decide ((s : Int) < 2) = true := decide_eq_true (by omega)
            have X3 := hide (X.out.far FR.out (fun h => h) (fun h => h))
            have Y3 := hide (Y.out.far FR.out (fun h => h) (fun _ _ h => h))
            go_wp2_with fail
            refine (xhere_any Bx Rx h l _ HH.out X3.out).mono ?_
            rintro e w' ⟨rfl, q, rfl⟩
            go_wp2_with fail
            refine (rhere_any By h c l A _ (show YSt (w3.drewN q) By h l A c from Y3.out) (by omega) (by have := HH.out; omega) HG.out).mono ?_
            rintro e w' ⟨rfl, rfl⟩
            go_wp2_with fail
            have FR2 := hide (FR.out.drewN q)
            have X4 := hide (X3.out.far ((Far.refl (fun _ => False) w3).drewN q) (fun h => h) (fun h => h))
            have Y4 := hide (show YSt (w3.drewN q) By h l A c from Y3.out)
            refine (xway_any Bx Rx h l _ HH.out X4.out).mono ?_
            rintro e w5 ⟨⟨A1, rfl, R1⟩, hb1⟩
            have Y5 := hide (Y4.out.far (far_of_below hb1) (fun h => h) (fun _ _ h => h))
            have FR3 := hide (FR2.out.trans (far_of_below hb1))
            have R1 := hide R1
            clear hb1
            go_wp2_with fail
            refine (rway_any By h c l A _ Y5.out (by omega) (by have := HH.out; omega) HG.out).mono ?_
            rintro e w6 ⟨⟨A2, c2, rfl, R2⟩, hb2⟩
            have R12 := hide (R1.out.far (far_of_below hb2) (fun _ _ h => h))
            have R2 := hide R2
            have FR4 := hide (FR3.out.trans (far_of_below hb2))
            clear hb2
            have hwl : (wayV h l).length ≤ maxLen := by
              unfold wayV one maxLen
              split <;> split <;> simp
            go_wp2_with fail
            refine (samenums_eq A1 A2 _ _ c2 _ _ (wayV h l) _ rfl hwl R12.out.sl R2.out.sl).mono ?_
            rintro e w7 ⟨rfl, q2, rfl⟩
            have FR5 := hide (FR4.out.drewN q2)
            clear hwl X3 Y3 X4 Y4 Y5 R1 R12 R2 FR FR2 FR3 FR4
            go_wp2_with fail
            go_roundg (gk - 1)
            case measure => omega
            case rel => exact ⟨s + 1, by omega, by go_num, FR5⟩
          · have hds : decide ((s : Int) < 2) = false := decide_eq_false (by omega)
            have X3 := hide (X.out.far FR.out (fun h => h) (fun h => h))
            have Y3 := hide (Y.out.far FR.out (fun h => h) (fun _ _ h => h))
            have KB3 := hide (Far.below KB.out FR.out KB.out.size (fun k h => h.elim))
            clear X Y KB FR
            have zs := KB3.out.size
            have zx := lt_of_blk X3.out.1
            have zr := lt_of_blk X3.out.2
            have zy := lt_of_blk Y3.out.1
            go_wp2_with fail
            have N0 := hide (bok_new w3)
            obtain ⟨B, hB⟩ : ∃ B, w3.heap.size = B := ⟨_, rfl⟩
            have F0 := hide ((Far.refl (fun _ => False) w3).alloc (.cells #[.slice none 0 0, .slice none 0 0, .slice none 0 0, .bool false] 49))
            have hz1 : (w3.alloc (.cells #[.slice none 0 0, .slice none 0 0, .slice none 0 0, .bool false] 49)).heap.size = w3.heap.size + 1 := by simp
            have HZ := hide hz1
            clear hz1
            obtain ⟨W1, hW1⟩ : ∃ W1, w3.alloc (.cells #[.slice none 0 0, .slice none 0 0, .slice none 0 0, .bool false] 49) = W1 := ⟨_, rfl⟩
            rw [hW1] at N0 F0 HZ ⊢
            have YK := hide (fun k (hk : (Value.slice A l.length c).ownBlock = some k) => (Y3.out.ge k hk).2)
            rw [hB] at N0 HZ zx zr zy zs YK ⊢
            clear hW1 hB
            have hz1 : B < W1.heap.size := by have := HZ.out; omega
            obtain ⟨L, hL⟩ : ∃ L, wayV h l = L := ⟨_, rfl⟩
            obtain ⟨m2, hm2⟩ : ∃ m2, L.length = m2 := ⟨_, rfl⟩
            have hm2' : m2 ≤ 2 := by
              rw [← hm2, ← hL]
              unfold wayV one
              split <;> split <;> simp
            have hmx2 : m2 ≤ maxLen := by unfold maxLen; omega
            have HM2 := hide hm2
            have XW := hide (fun (W : World) (X : XSt W Bx Rx h l) => xway_any Bx Rx h l W HH.out X)
            rw [hL, hm2] at XW
            clear hL hm2
            refine (XW.out _ (X3.out.far F0.out (fun h => h) (fun h => h))).mono ?_
            rintro e w4 ⟨⟨A1, rfl, R1⟩, hb1⟩
            have G1 := hide (far_of_below hb1)
            have hz4 := hb1.size
            have R1 := hide R1
            have K1 := hide (N0.out.far G1.out (fun h => h) (fun _ _ h => h))
            have lt1 := hide (fun g (h : A1 = some ⟨g, 0, none⟩) => R1.out.lt h)
            clear hb1 N0
            go_wp2_with fail
            refine (bknote_any _ m2 A1 _ _ _ K1.out (by simp) hmx2).mono ?_
            rintro e w5 ⟨rfl, v5, K5, o5', G5⟩
            have hz5 := G5.size
            have q5 := hide (fun g (h : v5.ownBlock = some g) => show w4.heap.size ≤ g ∧ g < w5.heap.size from by
              refine ⟨?_, (World.ownsRow.lt K5.2 g h).2⟩
              rcases o5' with e | ⟨g', e, hz⟩
              · rw [e] at h; simp [Value.ownBlock] at h
              · rw [e] at h; cases h; exact hz)
            have K5 := hide K5
            have G5 := hide (show Far (fun k => k = B) w4 w5 from G5.wide (fun k h => by rcases h with h | h; · exact h
                                                                                         · simp [Value.ownBlock] at h))
            have R1 := hide (R1.out.far G5.out (fun g h e => by have := (lt1.out g h).1; omega))
            have FA := hide (((F0.out.trans G1.out).wide (S' := fun k => k = B) (fun k h => h.elim)).trans G5.out)
            clear o5' G1 G5 K1
            go_wp2_with fail
            have X5 := hide (X3.out.far FA.out (fun e => by omega) (fun e => by omega))
            refine (XW.out _ X5.out).mono ?_
            rintro e w6 ⟨⟨A2, rfl, R2⟩, hb2⟩
            have G6 := hide (far_of_below hb2)
            have hz6 := hb2.size
            have R2 := hide R2
            have K6 := hide (K5.out.far G6.out (fun h => h) (fun _ _ h => h))
            have lt2 := hide (fun g (h : A2 = some ⟨g, 0, none⟩) => R2.out.lt h)
            have R1 := hide (R1.out.far G6.out (fun _ _ h => h))
            clear hb2 K5 XW
            go_wp2_with fail
            refine (bknote_any _ m2 A2 _ _ _ K6.out (by simp) hmx2).mono ?_
            rintro e w7 ⟨rfl, v7, K7, o7, G7⟩
            have hz7 := G7.size
            have q7 := hide (fun g (h : v7.ownBlock = some g) => World.ownsRow.lt K7.2 g h)
            have lo7 := hide (fun k (h : k = B ∨ v5.ownBlock = some k) => show k = B ∨ (w4.heap.size ≤ k ∧ k < w5.heap.size) from by
              rcases h with h | h
              · exact .inl h
              · exact .inr (q5.out k h))
            have K7 := hide K7
            have R1 := hide (R1.out.far G7 (fun g h e => by have h1 := lt1.out g h; have := lo7.out g e; omega))
            have R2 := hide (R2.out.far G7 (fun g h e => by have h1 := lt2.out g h; have := lo7.out g e; omega))
            have HH7 := hide (two_hold HM2.out R1.out R2.out)
            have r7 := hide (fun g (h : v7.ownBlock = some g) => show (w4.heap.size ≤ g ∧ g < w5.heap.size) ∨ w6.heap.size ≤ g from by
              rcases o7 with e | ⟨g', e, hz⟩
              · rw [e] at h; exact .inl (q5.out g h)
              · rw [e] at h; cases h; exact .inr hz)
            have HS7 := hide (two_sep' (m := m2) (m' := m2) (B := B) (v := v7) (fun g h => ⟨by have := lt1.out g h; omega, fun e => by have := lt1.out g h; have := r7.out g e; omega⟩) (fun g h => ⟨by have := lt2.out g h; omega, fun e => by have := lt2.out g h; have := r7.out g e; omega⟩) (fun g h h' => by have := lt1.out g h; have := lt2.out g h'; omega))
            have HK7 := hide (fun k (h : Blk [⟨A1, m2⟩, ⟨A2, m2⟩] k) => two_blk (b := W1.heap.size) (d := w6.heap.size) h (fun g h => by have := lt1.out g h; omega) (fun g h => by have := lt2.out g h; omega))
            have FB := hide (((FA.out.wide (S' := fun k => B ≤ k) (fun k h => by omega)).trans (G6.out.wide (fun k h => h.elim))).trans (G7.wide (fun k h => by have := lo7.out k h; omega)))
            have X7 := hide (X3.out.far FB.out (by omega) (by omega))
            have Y7 := hide (Y3.out.far FB.out (by omega) (fun k hk => by have := YK.out k hk; omega))
            have KB7 := hide (Far.below KB3.out FB.out KB3.out.size (fun k h => by omega))
            clear o7 r7 lo7 R1 R2 lt1 lt2 q5 G6 G7 FA FB X3 Y3 KB3 X5
            have cw := HC.out w7 KB7.out
            go_wp2_with fail
            clear cw
            refine (twin_any Ai mi ci xs _ HM.out (by omega) ((HS.out.below KB7.out).more KB7.out.size)).mono ?_
            rintro e w8 ⟨⟨g, cap8, rfl, hc8, hc8', hg8, T8⟩, hb8⟩
            have hz8 := hb8.size
            have hg8' : g < w8.heap.size := by obtain ⟨cur, h1, _⟩ := T8; exact lt_of_blk h1
            have G8 := far_of_below hb8
            have ST := hide (show Stat w Bx Rx By g h mi (ad.add i) xs from ⟨HH.out, HM.out, by omega, o1, o2, o4, o5, by omega, hblk⟩)
            have KB8 := KB7.out.trans (hb8.mono (by omega))
            have R0 : RS w Bx Rx By g h mi ci (ad.add i) Ai xs l l A c w8 := ⟨X7.out.far G8 (fun h => h) (fun h => h), Y7.out.far G8 (fun h => h) (fun _ _ h => h), T8, HC.out w8 KB8, HS.out.below KB8, KB8, fun k hk e => by have := YK.out k hk; omega⟩
            have K8 := K7.out.far G8 (fun h => h) (fun _ _ h => h)
            have H8 := HH7.out.far G8 (fun _ _ h => h)
            have AP : Hid (Calls Try.prog 21 #[.pointer (some ⟨B, 0, none⟩)] w8.drew fun e w' => e = .returned (.bool true) ∧ w'.cell? (ad.add i) = some (.slice Ai mi ci) ∧ w'.cell? ⟨By, 1, none⟩ = some (.slice A l.length c) ∧ RS w Bx Rx By g h mi ci (ad.add i) Ai xs l l A c w') := by
              refine (bkapart_any B v7 _ w8.drew _ (show Bok w8.drew B v7 _ from K8) (by simp) (by simp) (fun k r hr => ?_) (show Holdx w8.drew _ _ from H8) HS7.out).mono fun e w' ⟨he, hf⟩ => ?_
              · match k, hr with
                | 0, hr => cases hr; exact hmx2
                | 1, hr => cases hr; exact hmx2
              · have H' := R0.drew.far ST.out hf (fun k hk => by have := HK7.out k hk; omega) (fun hk => by have := HK7.out _ hk; omega) (fun hk => by have := HK7.out _ hk; omega) (fun hk => by have := HK7.out _ hk; omega) (fun k hk hk' => by have := YK.out k hk; have := HK7.out _ hk'; omega) (fun hk => by have := HK7.out _ hk; omega)
                exact ⟨he, H'.hd, H'.hy, H'⟩
            have LN := hide hc8'
            have hl1 : l.length ≤ 1000 := by omega
            have R0 := R0.drew
            clear X7 Y7 KB7 T8 hb8 G8 KB8 K7 K8 H8 HH7 HS7 HK7 hc8' HS HC
            go_wp2_with fail
            refine wp_region_noPanic ?_
            refine wp_region_held_drew (S := fun w' => w'.cell? (ad.add i) = some (.slice Ai mi ci)) (by kernel_rfl) R0.hd (fun hHeld => ?_)
            refine wpAnyH_ready (rs := [0]) (by kernel_rfl) (by simp) ?_
            refine AllReadyH.cons (o := _) rfl (fun K hK => ?_) AllReadyH.nil
            go_simp
            refine AP.out.mono ?_; rintro e w9 ⟨rfl, k0, k1, k2⟩
            refine hK.out _ _ k0 (fun hHeld => ?_)
            clear hK K
            try simp only [Act.put, List.setIfInBounds_toArray, List.set_cons_zero, List.set_cons_succ]
            refine wpAnyH_taken (i := 1) (d := some 100) (oi := _) (v := ?_) rfl rfl (by kernel_rfl) (by kernel_rfl) (by kernel_rfl) (fun _ _ _ h => h) (Or.inl ⟨by rfl, ?_⟩) (by assumption) ?_
            rotate_left 1
            · intro w hSw; (try dsimp only at hSw); go_simp; (try with_reducible rfl)
            try simp only [Act.put, List.setIfInBounds_toArray, List.set_cons_zero, List.set_cons_succ]
            refine wpAnyH_taken (i := 2) (d := some 101) (oi := _) (v := ?_) rfl rfl (by kernel_rfl) (by kernel_rfl) (by kernel_rfl) (fun _ _ _ h => h) (Or.inl ⟨by rfl, ?_⟩) (by assumption) ?_
            rotate_left 1
            · intro w hSw; (try dsimp only at hSw); go_simp; (try with_reducible rfl)
            try simp only [Act.put, List.setIfInBounds_toArray, List.set_cons_zero, List.set_cons_succ]
            refine wpAnyH_taken (i := 3) (d := some 102) (oi := _) (v := ?_) rfl rfl (by kernel_rfl) (by kernel_rfl) (by kernel_rfl) (fun _ _ _ h => h) (Or.inl ⟨by rfl, ?_⟩) (by assumption) ?_
            rotate_left 1
            · intro w hSw; (try dsimp only at hSw); go_simp; (try with_reducible rfl)
            try simp only [Act.put, List.setIfInBounds_toArray, List.set_cons_zero, List.set_cons_succ]
            refine wpAnyH_taken (i := 4) (d := some 103) (oi := _) (v := ?_) rfl rfl (by kernel_rfl) (by kernel_rfl) (by kernel_rfl) (fun _ _ _ h => h) (Or.inl ⟨by rfl, ?_⟩) (by assumption) ?_
            rotate_left 1
            · intro w hSw; (try dsimp only at hSw); go_simp; (try with_reducible rfl)
            try simp only [Act.put, List.setIfInBounds_toArray, List.set_cons_zero, List.set_cons_succ]
            refine wpAnyH_taken (i := 6) (d := some 105) (oi := _) (v := ?_) rfl rfl (by kernel_rfl) (by kernel_rfl) (by kernel_rfl) (fun _ _ _ h => h) (Or.inl ⟨by rfl, ?_⟩) (by assumption) ?_
            rotate_left 1
            · intro w hSw; (try dsimp only at hSw); go_simp; (try with_reducible rfl)
            try simp only [Act.put, List.setIfInBounds_toArray, List.set_cons_zero, List.set_cons_succ]
            refine wpAnyH_taken (i := 7) (d := some 106) (oi := _) (v := ?_) rfl rfl (by kernel_rfl) (by kernel_rfl) (by kernel_rfl) (fun _ _ _ h => h) (Or.inl ⟨by rfl, ?_⟩) (by assumption) ?_
            rotate_left 1
            · intro w hSw; (try dsimp only at hSw); go_simp; (try with_reducible rfl)
            try simp only [Act.put, List.setIfInBounds_toArray, List.set_cons_zero, List.set_cons_succ]
            refine wpAnyH_taken (i := 8) (d := some 107) (oi := _) (v := ?_) rfl rfl (by kernel_rfl) (by kernel_rfl) (by kernel_rfl) (fun _ _ _ h => h) (Or.inl ⟨by rfl, ?_⟩) (by assumption) ?_
            rotate_left 1
            · intro w hSw; (try dsimp only at hSw); go_simp; (try with_reducible rfl)
            try simp only [Act.put, List.setIfInBounds_toArray, List.set_cons_zero, List.set_cons_succ]
            refine wpAnyH_taken (i := 9) (d := some 108) (oi := _) (v := ?_) rfl rfl (by kernel_rfl) (by kernel_rfl) (by kernel_rfl) (fun _ _ _ h => h) (Or.inl ⟨by rfl, ?_⟩) (by assumption) ?_
            rotate_left 1
            · intro w hSw; (try dsimp only at hSw); go_simp; (try with_reducible rfl)
            try simp only [Act.put, List.setIfInBounds_toArray, List.set_cons_zero, List.set_cons_succ]
            refine wpAnyH_taken (i := 10) (d := some 109) (oi := _) (v := ?_) rfl rfl (by kernel_rfl) (by kernel_rfl) (by kernel_rfl) (fun _ _ _ h => h) (Or.inl ⟨by rfl, ?_⟩) (by assumption) ?_
            rotate_left 1
            · intro w hSw; (try dsimp only at hSw); go_simp; (try with_reducible rfl)
            try simp only [Act.put, List.setIfInBounds_toArray, List.set_cons_zero, List.set_cons_succ]
            refine wpAnyH_ready (rs := [5]) (by kernel_rfl) (by simp) ?_
            refine AllReadyH.cons (o := _) rfl (fun K hK => ?_) AllReadyH.nil
            go_simp
            refine (st_sendx hl1 ST.out k2).mono ?_; rintro e w10 ⟨rfl, k3, k4, k5⟩
            refine hK.out _ _ k3 (fun hHeld => ?_)
            clear hK K
            try simp only [Act.put, List.setIfInBounds_toArray, List.set_cons_zero, List.set_cons_succ]
            refine wpAnyH_ready (rs := [11]) (by kernel_rfl) (by simp) ?_
            refine AllReadyH.cons (o := _) rfl (fun K hK => ?_) AllReadyH.nil
            go_simp
            refine (st_sendy hl1 ST.out k5).mono ?_; rintro e w11 ⟨rfl, A', c', k6, k7, k8⟩
            refine hK.out _ _ k6 (fun hHeld => ?_)
            clear hK K
            try simp only [Act.put, List.setIfInBounds_toArray, List.set_cons_zero, List.set_cons_succ]
            refine wpAnyH_taken (i := 12) (d := some 111) (oi := _) (v := ?_) rfl rfl (by kernel_rfl) (by kernel_rfl) (by kernel_rfl) (fun _ _ _ h => h) (Or.inl ⟨by rfl, ?_⟩) (by assumption) ?_
            rotate_left 1
            · intro w hSw; (try dsimp only at hSw); go_simp; (try with_reducible rfl)
            try simp only [Act.put, List.setIfInBounds_toArray, List.set_cons_zero, List.set_cons_succ]
            refine wpAnyH_taken (i := 13) (d := some 112) (oi := _) (v := ?_) rfl rfl (by kernel_rfl) (by kernel_rfl) (by kernel_rfl) (fun _ _ _ h => h) (Or.inl ⟨by rfl, ?_⟩) (by assumption) ?_
            rotate_left 1
            · intro w hSw; (try dsimp only at hSw); go_simp; (try with_reducible rfl)
            try simp only [Act.put, List.setIfInBounds_toArray, List.set_cons_zero, List.set_cons_succ]
            refine wpAnyH_taken (i := 14) (d := some 113) (oi := _) (v := ?_) rfl rfl (by kernel_rfl) (by kernel_rfl) (by kernel_rfl) (fun _ _ _ h => h) (Or.inl ⟨by rfl, ?_⟩) (by assumption) ?_
            rotate_left 1
            · intro w hSw; (try dsimp only at hSw); go_simp; (try with_reducible rfl)
            try simp only [Act.put, List.setIfInBounds_toArray, List.set_cons_zero, List.set_cons_succ]
            refine wpAnyH_taken (i := 15) (d := some 114) (oi := _) (v := ?_) rfl rfl (by kernel_rfl) (by kernel_rfl) (by kernel_rfl) (fun _ _ _ h => h) (Or.inl ⟨by rfl, ?_⟩) (by assumption) ?_
            rotate_left 1
            · intro w hSw; (try dsimp only at hSw); go_simp; (try with_reducible rfl)
            try simp only [Act.put, List.setIfInBounds_toArray, List.set_cons_zero, List.set_cons_succ]
            refine wpAnyH_taken (i := 17) (d := some 116) (oi := _) (v := ?_) rfl rfl (by kernel_rfl) (by kernel_rfl) (by kernel_rfl) (fun _ _ _ h => h) (Or.inl ⟨by rfl, ?_⟩) (by assumption) ?_
            rotate_left 1
            · intro w hSw; (try dsimp only at hSw); go_simp; (try with_reducible rfl)
            try simp only [Act.put, List.setIfInBounds_toArray, List.set_cons_zero, List.set_cons_succ]
            refine wpAnyH_taken (i := 18) (d := some 117) (oi := _) (v := ?_) rfl rfl (by kernel_rfl) (by kernel_rfl) (by kernel_rfl) (fun _ _ _ h => h) (Or.inl ⟨by rfl, ?_⟩) (by assumption) ?_
            rotate_left 1
            · intro w hSw; (try dsimp only at hSw); go_simp; (try with_reducible rfl)
            try simp only [Act.put, List.setIfInBounds_toArray, List.set_cons_zero, List.set_cons_succ]
            refine wpAnyH_taken (i := 19) (d := some 118) (oi := _) (v := ?_) rfl rfl (by kernel_rfl) (by kernel_rfl) (by kernel_rfl) (fun _ _ _ h => h) (Or.inl ⟨by rfl, ?_⟩) (by assumption) ?_
            rotate_left 1
            · intro w hSw; (try dsimp only at hSw); go_simp; (try with_reducible rfl)
            try simp only [Act.put, List.setIfInBounds_toArray, List.set_cons_zero, List.set_cons_succ]
            refine wpAnyH_turn (S2 := fun w' => w'.cell? (ad.add i) = some (.slice Ai mi ci) ∧ w'.cell? ⟨By, 1, none⟩ = some (.slice A' (sendV l xs).length c')) (fun _ h => h.1) ⟨k6, k7⟩ (fun hHeld => ?_)
            refine wpAnyH_taken (i := 20) (d := some 119) (oi := _) (v := ?_) rfl rfl (by kernel_rfl) (by kernel_rfl) (by kernel_rfl) (fun _ _ _ h => h) (Or.inl ⟨by rfl, ?_⟩) (by assumption) ?_
            rotate_left 1
            · intro w hSw; (try dsimp only at hSw); go_simp; (try with_reducible rfl)
            try simp only [Act.put, List.setIfInBounds_toArray, List.set_cons_zero, List.set_cons_succ]
            refine wpAnyH_taken (i := 21) (d := some 120) (oi := _) (v := ?_) rfl rfl (by kernel_rfl) (by kernel_rfl) (by kernel_rfl) (fun _ _ _ h => h) (Or.inl ⟨by rfl, ?_⟩) (by assumption) ?_
            rotate_left 1
            · intro w hSw; (try dsimp only at hSw); go_simp; (try with_reducible rfl)
            try simp only [Act.put, List.setIfInBounds_toArray, List.set_cons_zero, List.set_cons_succ]
            refine wpAnyH_ready (rs := [16]) (by kernel_rfl) (by simp) ?_
            refine AllReadyH.cons (o := _) rfl (fun K hK => ?_) AllReadyH.nil
            go_simp
            refine (st_ticks ST.out k8).mono ?_; rintro e w12 ⟨rfl, m1, m2, m3⟩
            refine hK.out _ _ ⟨m1, m2⟩ (fun hHeld => ?_)
            clear hK K
            try simp only [Act.put, List.setIfInBounds_toArray, List.set_cons_zero, List.set_cons_succ]
            refine wpAnyH_taken (i := 22) (d := some 121) (oi := _) (v := ?_) rfl rfl (by kernel_rfl) (by kernel_rfl) (by kernel_rfl) (fun _ _ _ h => h) (Or.inl ⟨by rfl, ?_⟩) (by assumption) ?_
            rotate_left 1
            · intro w hSw; (try dsimp only at hSw); go_simp; (try with_reducible rfl)
            try simp only [Act.put, List.setIfInBounds_toArray, List.set_cons_zero, List.set_cons_succ]
            refine wpAnyH_taken (i := 23) (d := some 122) (oi := _) (v := ?_) rfl rfl (by kernel_rfl) (by kernel_rfl) (by kernel_rfl) (fun _ _ _ h => h) (Or.inl ⟨by rfl, ?_⟩) (by assumption) ?_
            rotate_left 1
            · intro w hSw; (try dsimp only at hSw); go_simp; (try with_reducible rfl)
            try simp only [Act.put, List.setIfInBounds_toArray, List.set_cons_zero, List.set_cons_succ]
            refine wpAnyH_taken (i := 24) (d := some 123) (oi := _) (v := ?_) rfl rfl (by kernel_rfl) (by kernel_rfl) (by kernel_rfl) (fun _ _ _ h => h) (Or.inl ⟨by rfl, ?_⟩) (by assumption) ?_
            rotate_left 1
            · intro w hSw; (try dsimp only at hSw); go_simp; (try with_reducible rfl)
            try simp only [Act.put, List.setIfInBounds_toArray, List.set_cons_zero, List.set_cons_succ]
            refine wpAnyH_taken (i := 25) (d := some 124) (oi := _) (v := ?_) rfl rfl (by kernel_rfl) (by kernel_rfl) (by kernel_rfl) (fun _ _ _ h => h) (Or.inl ⟨by rfl, ?_⟩) (by assumption) ?_
            rotate_left 1
            · intro w hSw; (try dsimp only at hSw); go_simp; (try with_reducible rfl)
            try simp only [Act.put, List.setIfInBounds_toArray, List.set_cons_zero, List.set_cons_succ]
            refine wpAnyH_taken (i := 26) (d := some 125) (oi := _) (v := ?_) rfl rfl (by kernel_rfl) (by kernel_rfl) (by kernel_rfl) (fun _ _ _ h => h) (Or.inl ⟨by rfl, ?_⟩) (by assumption) ?_
            rotate_left 1
            · intro w hSw; (try dsimp only at hSw); go_simp; (try with_reducible rfl)
            try simp only [Act.put, List.setIfInBounds_toArray, List.set_cons_zero, List.set_cons_succ]
            refine wpAnyH_taken (i := 27) (d := some 126) (oi := _) (v := ?_) rfl rfl (by kernel_rfl) (by kernel_rfl) (by kernel_rfl) (fun _ _ _ h => h) (Or.inl ⟨by rfl, ?_⟩) (by assumption) ?_
            rotate_left 1
            · intro w hSw; (try dsimp only at hSw); go_simp; (try with_reducible rfl)
            try simp only [Act.put, List.setIfInBounds_toArray, List.set_cons_zero, List.set_cons_succ]
            refine wpAnyH_taken (i := 28) (d := some 127) (oi := _) (v := ?_) rfl rfl (by kernel_rfl) (by kernel_rfl) (by kernel_rfl) (fun _ _ _ h => h) (Or.inl ⟨by rfl, ?_⟩) (by assumption) ?_
            rotate_left 1
            · intro w hSw; (try dsimp only at hSw); go_simp; (try with_reducible rfl)
            try simp only [Act.put, List.setIfInBounds_toArray, List.set_cons_zero, List.set_cons_succ]
            refine wpAnyH_taken (i := 29) (d := some 128) (oi := _) (v := ?_) rfl rfl (by kernel_rfl) (by kernel_rfl) (by kernel_rfl) (fun _ _ _ h => h) (Or.inl ⟨by rfl, ?_⟩) (by assumption) ?_
            rotate_left 1
            · intro w hSw; (try dsimp only at hSw); go_simp; (try with_reducible rfl)
            try simp only [Act.put, List.setIfInBounds_toArray, List.set_cons_zero, List.set_cons_succ]
            refine wpAnyH_ready (rs := [30]) (by kernel_rfl) (by simp) ?_
            refine AllReadyH.cons (o := _) rfl (fun K hK => ?_) AllReadyH.nil
            go_simp
            refine (st_left hc8 LN.out ST.out m3).mono ?_; rintro e w13 ⟨rfl, m4, m5, m6⟩
            refine hK.out _ _ ⟨m4, m5⟩ (fun hHeld => ?_)
            clear hK K
            try simp only [Act.put, List.setIfInBounds_toArray, List.set_cons_zero, List.set_cons_succ]
            refine wpAnyH_taken (i := 31) (d := some 130) (oi := _) (v := ?_) rfl rfl (by kernel_rfl) (by kernel_rfl) (by kernel_rfl) (fun _ _ _ h => h) (Or.inl ⟨by rfl, ?_⟩) (by assumption) ?_
            rotate_left 1
            · intro w hSw; (try dsimp only at hSw); go_simp; (try with_reducible rfl)
            try simp only [Act.put, List.setIfInBounds_toArray, List.set_cons_zero, List.set_cons_succ]
            refine wpAnyH_taken (i := 32) (d := some 131) (oi := _) (v := ?_) rfl rfl (by kernel_rfl) (by kernel_rfl) (by kernel_rfl) (fun _ _ _ h => h) (Or.inl ⟨by rfl, ?_⟩) (by assumption) ?_
            rotate_left 1
            · intro w hSw; (try dsimp only at hSw); go_simp; (try with_reducible rfl)
            try simp only [Act.put, List.setIfInBounds_toArray, List.set_cons_zero, List.set_cons_succ]
            refine wpAnyH_done (by kernel_rfl) ?_ _
            refine NoPanic.normal ?_
            have hln := hide (sendV_len l xs)
            have HX := hide m6.x
            have HY := hide m6.y
            have HB := hide m6.bel
            clear k0 k1 k2 k3 k4 k5 k6 k7 k8 m1 m2 m3 m4 m5 m6
            go_wp2_with fail
            go_roundg (go - 1)
            case measure => omega
            case rel => exact ⟨i + 1, sendV l xs, A', c', by omega, by go_num, by have := hln.out; omega, HG.out.send xs, HX, HY, HB⟩
    · go_wp2_with fail
      refine (lives_any _).mono ?_
      rintro e w' ⟨rfl, hb⟩
      have HB := hide (KB.out.trans (hb.mono KB.out.size))
      clear hb
      go_wp2_with fail
      go_ret
      exact ⟨rfl, HB.out⟩
end Go.Proofs.Ytbniijmabebhoaa
