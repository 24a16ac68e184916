/- The walk of SumsCheck: Check answers as the reference does, its bytes share nothing with what came in; nothing that was there has turned. -/
import Derived.Test.YtlbnikmaafccnaaSumsTwin
import Derived.Test.YtlbnikmaafccnaaSumsLives
import Derived.Test.YtlbnikmaafccnaaBookWords
namespace Go.Proofs.Ytlbnikmaafccnaa
open Go.RowKit Sm Bk
set_option linter.unusedVariables false
theorem Twin.byrow {w : World} {g base : Nat} {xs : List Nat} (h : Twin w g xs) (hb : base ≤ g) : ByRow w base (some ⟨g, 0, none⟩) xs := by
  obtain ⟨cur, h1, h2⟩ := h
  have hl : (cur.toList.take (xs.length + 2)).length = xs.length + 2 := by rw [h2]; simp
  rw [List.length_take] at hl
  refine .inr ⟨g, cur, rfl, hb, h1, by simp at hl; omega, ?_⟩
  have h3 : (cur.toList.take (xs.length + 2)).take xs.length = xs.map bv := by rw [h2]; simp
  rw [List.take_take] at h3
  rwa [show min xs.length (xs.length + 2) = xs.length from by omega] at h3
section
variable {w w' : World} {base : Nat} {A : Option Addr} {xs : List Nat}
theorem ByRow.hold (h : ByRow w base A xs) (hm : 0 < xs.length) : ∃ g cur, A = some ⟨g, 0, none⟩ ∧ base ≤ g ∧ w.heap[g]? = some (.cells cur 5 (0, 0)) ∧ xs.length ≤ cur.size ∧ ∀ j, j < xs.length → cur[j]? = some (bv (xs.getD j 0)) := by
  rcases h with ⟨rfl, rfl⟩ | ⟨g, cur, rfl, h1, h2, h3, h4⟩
  · simp at hm
  · refine ⟨g, cur, rfl, h1, h2, h3, fun j hj => ?_⟩
    have : (cur.toList.take xs.length)[j]? = (xs.map bv)[j]? := by rw [h4]
    rw [List.getElem?_take, if_pos hj, List.getElem?_map, List.getElem?_eq_getElem hj] at this
    simp at this
    rw [this, List.getD_eq_getElem?_getD, List.getElem?_eq_getElem hj]
    rfl
theorem ByRow.lt {g : Nat} (h : ByRow w base A xs) (hA : A = some ⟨g, 0, none⟩) : base ≤ g ∧ g < w.heap.size := by
  rcases h with ⟨h, _⟩ | ⟨g', cur, e, h1, h2, h3⟩
  · rw [h] at hA; cases hA
  · rw [hA] at e
    cases e
    exact ⟨h1, lt_of_blk h2⟩
theorem Twin.below {g B : Nat} (h : Twin w g xs) (hb : Below B w w') (hs : w.heap.size ≤ B) : Twin w' g xs := by
  obtain ⟨cur, h1, h2⟩ := h
  exact ⟨cur, (hb.block g (by have := lt_of_blk h1; omega)).trans h1, h2⟩
theorem ByRow.below {B : Nat} (h : ByRow w base A xs) (hb : Below B w w') (hs : w.heap.size ≤ B) : ByRow w' base A xs := by
  rcases h with h | ⟨g, cur, e, h1, h2, h3⟩
  · exact .inl h
  · exact .inr ⟨g, cur, e, h1, (hb.block g (by have := lt_of_blk h2; omega)).trans h2, h3⟩
end
/-- Rows of bytes, one value to each. -/
def rowsOf (l : List (Option Addr × List Nat)) : List Rw := l.map fun p => ⟨p.1, p.2.length⟩
theorem hold_of {w : World} (l : List (Option Addr × List Nat)) (h : ∀ p ∈ l, ∃ b, ByRow w b p.1 p.2) : Holdx w (rowsOf l) (fun i j => ((((l.map (·.2)).getD i []).getD j 0 : Nat) : Int)) := by
  intro i r hr hm
  unfold rowsOf at hr
  rw [List.getElem?_map] at hr
  cases hl : l[i]? with
  | none => rw [hl] at hr; simp at hr
  | some p =>
    rw [hl] at hr
    simp at hr
    subst hr
    obtain ⟨b, hb⟩ := h p (List.mem_of_getElem? hl)
    obtain ⟨g, cur, h1, _, h2, h3, h4⟩ := hb.hold hm
    refine ⟨g, cur, h1, h2, h3, fun j hj => ?_⟩
    rw [h4 j hj]
    have : (l.map (·.2)).getD i [] = p.2 := by rw [List.getD_eq_getElem?_getD, List.getElem?_map, hl]; rfl
    show some (bv (p.2.getD j 0)) = some (.int .u8 (((((l.map (·.2)).getD i []).getD j 0 : Nat)) : Int))
    rw [this]
    rfl
set_option maxRecDepth 100000 in
set_option maxHeartbeats 8000000 in
theorem scheck_walk (A : Option Addr) (n c : Nat) (bs : List Nat) (w : World) (hn : bs.length = n) (hs : n ≤ 500) (hnc : n ≤ c) (hc : c ≤ maxLen) (hb : By bs) (hx : Sl w w.heap.size A (bs.map bv)) :
    Calls Try.prog 10 #[.slice A n c] w fun e w' => e = .returned (.bool true) ∧ Below w.heap.size w w' := by
  obtain ⟨ok, hok⟩ : ∃ ok, checkB bs = ok := ⟨_, rfl⟩
  obtain ⟨k, hk⟩ : ∃ k, (if ok then n - 4 else 0) = k := ⟨_, rfl⟩
  obtain ⟨cs, hcs⟩ : ∃ cs, (if ok then bs.take (n - 4) else []) = cs := ⟨_, rfl⟩
  have hkl : cs.length = k := by subst hcs; subst hk; cases ok <;> simp; omega
  have hkn : k ≤ n := by subst hk; cases ok <;> simp
  have T1 := hide (twin_any A n c bs w hn (by omega) hx)
  have C1 := hide (fun (W : World) (g cap : Nat) (h1 : n + 2 ≤ cap) (h2 : cap ≤ maxLen) (h3 : Twin W g bs) => check_any (some ⟨g, 0, none⟩) n cap bs W hn (by omega) (by omega) h2 hb h3.sl)
  have R1 := hide (fun (W : World) (h : Below w.heap.size w W) => rcheck_any A n c bs W hn (by omega) hnc hc hb ((hx.below h).more h.size))
  have L1 := hide (fun (W : World) (g cap : Nat) (h1 : n + 2 ≤ cap) (h2 : cap ≤ maxLen) (h3 : Twin W g bs) (h : Below w.heap.size w W) => left_any A g n cap c bs W hn (by omega) h1 h2 h3 ((hx.below h).more h.size))
  rw [hok] at C1 R1
  have SS := hide (fun (W : World) (A4 : Option Addr) (b : Nat) (h : ByRow W b A4 cs) (hB : Below w.heap.size w W) => same_eq A4 (if ok then A else none) k k k (if ok then c else 0) _ _ cs W hkl hkl h.sl (by
    subst hcs
    cases ok with
    | false => exact Sl.nil
    | true => simp only [if_true]; rw [List.map_take]; exact (hx.below hB).pre _ : Sl W w.heap.size _ _))
  rw [hk, hcs] at C1
  rw [hk] at R1
  obtain ⟨A6, hA6⟩ : ∃ A6, (if ok then A else none) = A6 := ⟨_, rfl⟩
  obtain ⟨c6, hc6⟩ : ∃ c6, (if ok then c else 0) = c6 := ⟨_, rfl⟩
  rw [hA6, hc6] at R1 SS
  have hd : decide ((500 : Int) < n) = false := decide_eq_false (by omega)
  have hd2 : decide (500 < n) = false := decide_eq_false (by omega)
  have HKL := hide hkl
  have HNL := hide hn
  have hbb : (ok != ok) = false := by cases ok <;> rfl
  clear hok hk hcs hkl hn hb hx hA6 hc6
  go_enter Try.func10, Try.ntmps10
  go_wp2_with fail
  refine T1.out.mono ?_
  rintro e w1 ⟨⟨g, cap, rfl, q1, q2, q3, TW⟩, b1⟩
  have TW := hide TW
  have ltg := hide (show g < w1.heap.size from by obtain ⟨cur, h1, _⟩ := TW.out; exact lt_of_blk h1)
  have B1 := hide b1
  have Q2 := hide q2
  have hz1 := b1.size
  clear b1 T1 q2
  go_wp2_with fail
  refine (C1.out _ g cap q1 Q2.out TW.out).mono ?_
  rintro e w2 ⟨⟨A4, rfl, R4⟩, b2⟩
  have hz2 := b2.size
  have F2 := hide (Far.refl (fun _ => False) w1)
  have BB2 := hide b2
  have B2 := hide (B1.out.trans (b2.mono hz1))
  have R4 := hide R4
  clear b2
  go_wp2_with fail
  refine (R1.out _ B2.out).mono ?_
  rintro e w3 ⟨rfl, b3⟩
  have hz3 := b3.size
  have B3 := hide (B2.out.trans (b3.mono (by omega)))
  have R43 := hide (R4.out.below b3 (Nat.le_refl _))
  have TW3 := hide ((TW.out.below BB2.out (Nat.le_refl _)).below b3 (Nat.le_refl _))
  have RT := hide (TW3.out.byrow q3)
  clear b3 R4 TW BB2 C1 R1
  go_wp2_with fail
  refine (SS.out _ A4 _ R43.out B3.out).mono ?_
  rintro e w' ⟨rfl, rfl⟩
  go_wp2_with fail
  refine (L1.out _ g cap q1 Q2.out TW3.out B3.out).mono ?_
  rintro e w' ⟨rfl, rfl⟩
  go_wp2_with fail
  clear SS L1 TW3 hbb F2
  have N0 := hide (bok_new w3)
  have hmx : n ≤ maxLen := by unfold maxLen; omega
  have hmk : k ≤ maxLen := by unfold maxLen; omega
  refine (bknote_any _ n (some ⟨g, 0, none⟩) _ _ _ N0.out (by simp) hmx).mono ?_
  rintro e w4 ⟨rfl, v4, K4, o4, F4⟩
  have hz4 := F4.size
  have hz4 : w3.heap.size + 1 ≤ w4.heap.size := by rw [alloc_size] at hz4; exact hz4
  have K4 := hide K4
  have o4 := hide o4
  have F4 := hide (((Far.refl (fun k => k = w3.heap.size ∨ (Value.slice none 0 0).ownBlock = some k) w3).alloc (.cells #[.slice none 0 0, .slice none 0 0, .slice none 0 0, .bool false] 73)).trans F4)
  clear N0
  go_wp2_with fail
  refine (bknote_any _ k A4 _ _ _ K4.out (by simp) hmk).mono ?_
  rintro e w5 ⟨rfl, v5, K5, o5, F5⟩
  have hz5 := F5.size
  have hv5 := hide (fun g hg => (World.ownsRow.lt K5.2 g hg).1)
  have K5 := hide K5
  have F5 := hide F5
  have q4 := hide (fun g (h : v4.ownBlock = some g) => show w3.heap.size < g from (World.ownsRow.lt K4.out.2 g h).1)
  have lt1 := hide (fun g' (h : (some ⟨g, 0, none⟩ : Option Addr) = some ⟨g', 0, none⟩) => RT.out.lt h)
  have lt3 := hide (fun g' (h : A4 = some ⟨g', 0, none⟩) => R43.out.lt h)
  have R15 := hide ((RT.out.far F4.out (fun g h e => by have := (lt1.out g h).2; simp [Value.ownBlock] at e; omega)).far F5.out (fun g h e => by
    have := (lt1.out g h).2
    rcases e with e | e
    · omega
    · have := q4.out g e; omega))
  have R35 := hide ((R43.out.far F4.out (fun g h e => by have := (lt3.out g h).2; simp [Value.ownBlock] at e; omega)).far F5.out (fun g h e => by
    have := (lt3.out g h).2
    rcases e with e | e
    · omega
    · have := q4.out g e; omega))
  have HH := hide (hold_of [(some ⟨g, 0, none⟩, bs), (A4, cs)] (by
    intro p hp
    simp at hp
    rcases hp with rfl | rfl
    · exact ⟨_, R15.out⟩
    · exact ⟨_, R35.out⟩))
  have hro : rowsOf [((some ⟨g, 0, none⟩ : Option Addr), bs), (A4, cs)] = [⟨some ⟨g, 0, none⟩, n⟩, ⟨A4, k⟩] := by simp [rowsOf, HNL.out, HKL.out]
  rw [hro] at HH
  clear hro
  have HS := hide (two_sep (m := n) (m' := k) (b := w1.heap.size) (B := w3.heap.size) (v := v5) (A := some ⟨g, 0, none⟩) (A' := A4) (fun g' h => by cases h; exact ltg.out) (fun g h => lt3.out g h) (by omega) (fun g h => by have := hv5.out g h; omega))
  have B5 := hide (Far.below (Far.below B3.out F4.out (by omega) (by rintro k (rfl | h) <;> first | omega | simp [Value.ownBlock] at h)) F5.out (by omega) (by
    rintro k (rfl | h)
    · omega
    · have := q4.out k h; omega))
  have HB := hide (fun k' (h : Blk [⟨some ⟨g, 0, none⟩, n⟩, ⟨A4, k⟩] k') => show w.heap.size ≤ k' from by
    obtain ⟨i, r, hr, _, hA⟩ := h
    match i, hr with
    | 0, hr => cases hr; exact (lt1.out k' hA).1
    | 1, hr => cases hr; have := (lt3.out k' hA).1; omega)
  clear R43 RT R15 R35 F4 K4 o4 o5 B3 q4 hv5 lt1 lt3
  go_wp2_with fail
  refine (bkapart_any _ _ _ _ _ K5.out (by simp) (by simp) (by
    intro i r hr
    match i, hr with
    | 0, hr => cases hr; exact hmx
    | 1, hr => cases hr; exact hmk) HH.out HS.out).mono ?_
  rintro e w6 ⟨rfl, F6⟩
  have hz6 := F6.size
  have B6 := hide (Far.below B5.out F6 (by omega) HB.out)
  clear F6 HH HS HB K5 F5 B5
  go_wp2_with fail
  refine (slives_any _).mono ?_
  rintro e w7 ⟨rfl, b7⟩
  have B7 := hide (B6.out.trans (b7.mono (by omega)))
  clear b7
  go_wp2_with fail
  go_ret
  exact ⟨rfl, B7.out⟩
end Go.Proofs.Ytlbnikmaafccnaa
