/- The walk of RingsPaths: Path and Place answer as the reference does, and the paths share nothing; nothing that was there has turned. -/
import Derived.Test.YtbniijmabebhoaaDoorRef7
import Derived.Test.YtbniijmabebhoaaDoorBookWords
import Derived.Test.YtbniijmabebhoaaDoorSameNums
import Derived.Test.YtbniijmabebhoaaDoorRLives
namespace Go.Proofs.YtbniijmabebhoaaDoor
open Go.RowKit Bk
set_option linter.unusedVariables false
namespace Rg
/-- What Path hands back: the nodes, none where it is none. -/
def pathV (n d a b h : Int) : List Int := if pathB n d a b h then pathL n d a b h else []
end Rg
theorem dist_neg {n d a b : Int} (h : 1 ≤ Rg.dist n d a b) : Rg.ringB n d = true ∧ Rg.nodeB n a = true ∧ Rg.nodeB n b = true := by
  unfold Rg.dist at h
  split at h
  · rename_i h'
    simp only [Bool.and_eq_true] at h'
    exact ⟨h'.1.1, h'.1.2, h'.2⟩
  · omega
theorem pathV_len (n d a b h : Int) : (Rg.pathV n d a b h).length ≤ 20 := by
  unfold Rg.pathV
  split
  · unfold Rg.pathL
    rw [List.length_reverse]
    exact pl_len' _ _ _ _ _ _
  · simp
theorem path_all (n d a b h : Int) (w : World) (hd : 0 ≤ d) (g : Signs w) (g0 : 0 < w.heap.size) :
    Calls Tryd.prog 39 #[.int .i64 n, .int .u8 d, .int .i64 a, .int .i64 b, .int .i64 h] w fun e w' => (∃ A, e = .returned (.tuple #[.slice A (Rg.pathV n d a b h).length (Rg.pathV n d a b h).length, .bool (Rg.pathB n d a b h)]) ∧ IntRow w' w.heap.size A (Rg.pathV n d a b h)) ∧ Below w.heap.size w w' := by
  unfold Rg.pathV
  cases hp : Rg.pathB n d a b h with
  | false => exact (path_none n d a b h w hd g hp).mono fun e w' ⟨he, hw⟩ => ⟨⟨none, he, .inl ⟨rfl, rfl⟩⟩, hw ▸ Below.refl _ _⟩
  | true => exact (path_some n d a b h w hd g g0 hp).mono fun e w' h => h
theorem rpath_all (n d a b h : Int) (w : World) (hd : 0 ≤ d) :
    Calls Tryd.prog 40 #[.int .i64 n, .int .u8 d, .int .i64 a, .int .i64 b, .int .i64 h] w fun e w' => (∃ v, e = .returned (.tuple #[v, .bool (Rg.pathB n d a b h)]) ∧ w'.ownsRow w.heap.size 3 1 v (Rg.pathV n d a b h).length ((Rg.pathV n d a b h).map (.int .i64))) ∧ Below w.heap.size w w' := by
  unfold Rg.pathV
  cases hp : Rg.pathB n d a b h with
  | false => exact (rpath_none n d a b h w hd hp).mono fun e w' ⟨he, hw⟩ => ⟨⟨.slice none 0 0, he, World.ownsRow_nil _ _ _ _⟩, hw ▸ Below.refl _ _⟩
  | true =>
    have hp' := hp
    simp [Rg.pathB] at hp'
    obtain ⟨r, q, q'⟩ := dist_neg hp'.1.1
    obtain ⟨h1, h2, h3⟩ := ring_out r
    obtain ⟨h4, h5⟩ := node_out q
    obtain ⟨h6, h7⟩ := node_out q'
    exact rpath_some n d a h1 h2 (by omega) h4 h5 (Rg.dist n d a b).toNat b h w (by omega) h6 h7 (hop_of hp'.1.2) hp'.2
section
variable {w w' : World} {base : Nat} {A : Option Addr} {xs : List Int}
theorem IntRow.hold (h : IntRow w base A xs) (hm : 0 < xs.length) : ∃ g cur, A = some ⟨g, 0, none⟩ ∧ base ≤ g ∧ w.heap[g]? = some (.cells cur 3 (0, 0)) ∧ xs.length ≤ cur.size ∧ ∀ j, j < xs.length → cur[j]? = some (.int .i64 (xs.getD j 0)) := by
  rcases h with ⟨rfl, rfl⟩ | ⟨g, cur, rfl, h1, h2, h3, h4⟩
  · simp at hm
  · refine ⟨g, cur, rfl, h1, h2, h3, fun j hj => ?_⟩
    have : (cur.toList.take xs.length)[j]? = (xs.map (Value.int .i64))[j]? := by rw [h4]
    rw [List.getElem?_take, if_pos hj, List.getElem?_map, List.getElem?_eq_getElem hj] at this
    simp at this
    rw [this, List.getD_eq_getElem?_getD, List.getElem?_eq_getElem hj]
    rfl
end

theorem IntRow.lt {w : World} {base g : Nat} {A : Option Addr} {xs : List Int} (h : IntRow w base A xs) (hA : A = some ⟨g, 0, none⟩) : base ≤ g ∧ g < w.heap.size := by
  rcases h with ⟨h, _⟩ | ⟨g', cur, e, h1, h2, h3⟩
  · rw [h] at hA; cases hA
  · rw [hA] at e
    cases e
    exact ⟨h1, lt_of_blk h2⟩
theorem IntRow.far {S : Nat → Prop} {w w' : World} {base : Nat} {A : Option Addr} {xs : List Int} (h : IntRow w base A xs) (hf : Far S w w') (hn : ∀ g, A = some ⟨g, 0, none⟩ → ¬ S g) : IntRow w' base A xs := by
  rcases h with h | ⟨g, cur, e, h1, h2, h3⟩
  · exact .inl h
  · exact .inr ⟨g, cur, e, h1, (hf.block g (lt_of_blk h2) (hn g e)).trans h2, h3⟩
theorem two_hold {w : World} {b b' m : Nat} {A A' : Option Addr} {L : List Int} (hm : L.length = m) (R : IntRow w b A L) (R' : IntRow w b' A' L) : Holdx w [⟨A, m⟩, ⟨A', m⟩] (fun _ j => L.getD j 0) := by
  subst hm
  intro i r hr hm
  match i, hr with
  | 0, hr =>
    cases hr
    obtain ⟨g, cur, h1, _, h2, h3, h4⟩ := R.hold hm
    exact ⟨g, cur, h1, h2, h3, h4⟩
  | 1, hr =>
    cases hr
    obtain ⟨g, cur, h1, _, h2, h3, h4⟩ := R'.hold hm
    exact ⟨g, cur, h1, h2, h3, h4⟩
theorem two_blk {b m m' k : Nat} {A A' : Option Addr} (h : Blk [⟨A, m⟩, ⟨A', m'⟩] k) (h1 : ∀ g, A = some ⟨g, 0, none⟩ → b ≤ g) (h3 : ∀ g, A' = some ⟨g, 0, none⟩ → b ≤ g) : b ≤ k := by
  obtain ⟨i, r, hr, _, hA⟩ := h
  match i, hr with
  | 0, hr => cases hr; exact h1 k hA
  | 1, hr => cases hr; exact h3 k hA
theorem far_below {S : Nat → Prop} {B : Nat} {a b c : World} (hb : Below B a b) (hf : Far S b c) (hs : ∀ k, S k → B ≤ k) (hB : B ≤ b.heap.size) : Below B a c := Far.below hb hf hB hs
set_option maxRecDepth 100000 in
set_option maxHeartbeats 8000000 in
theorem paths_walk (n d c0 c1 c2 : Int) (w : World) (h2 : 0 ≤ d) (h3 : d ≤ 255) (hs : 0 < w.heap.size) (g : Signs w) :
    Calls Tryd.prog 7 #[.int .i64 n, .int .u8 d, .agg #[.int .i64 c0, .int .i64 c1, .int .i64 c2]] w fun e w' => e = .returned (.bool true) ∧ Below w.heap.size w w' := by
  have GS := hide g
  clear g
  have B0 := hide (Below.alloc (Below.refl w.heap.size w) (Nat.le_refl _) (.cells #[.int .i64 c0, .int .i64 c1, .int .i64 c2] 61))
  have hz0 : (w.alloc (.cells #[.int .i64 c0, .int .i64 c1, .int .i64 c2] 61)).heap.size = w.heap.size + 1 := by simp
  have HZ := hide hz0
  have CC := hide (fun j => cell_new w #[.int .i64 c0, .int .i64 c1, .int .i64 c2] 61 (0, 0) j)
  clear hz0
  obtain ⟨L, hL⟩ : ∃ L, Rg.pathV n d c0 c1 c2 = L := ⟨_, rfl⟩
  obtain ⟨ok, hok⟩ : ∃ ok, Rg.pathB n d c0 c1 c2 = ok := ⟨_, rfl⟩
  obtain ⟨pv, hpv⟩ : ∃ pv, Rg.place n d c0 c1 = pv := ⟨_, rfl⟩
  have hlen := pathV_len n d c0 c1 c2
  rw [hL] at hlen
  obtain ⟨m, hm⟩ : ∃ m, L.length = m := ⟨_, rfl⟩
  rw [hm] at hlen
  have P1 := hide (fun W g g0 => path_all n d c0 c1 c2 W h2 g g0)
  have P2 := hide (fun W => rpath_all n d c0 c1 c2 W h2)
  have Q1 := hide (fun W g => place_any n d c0 c1 W h2 g)
  have Q2 := hide (fun W => rplace_any n d c0 c1 W h2)
  rw [hL, hok, hm] at P1 P2
  rw [hpv] at Q1 Q2
  have HM := hide hm
  clear hL hok hpv hm
  go_enter Tryd.func7, Tryd.ntmps7
  go_wp2_with fail
  have BA := hide B0.out.size
  have g1 := hide (show Signs (w.alloc (.cells #[.int .i64 c0, .int .i64 c1, .int .i64 c2] 61)) from GS.out.below B0.out hs)
  obtain ⟨W0, hW0⟩ : ∃ W0, w.alloc (.cells #[.int .i64 c0, .int .i64 c1, .int .i64 c2] 61) = W0 := ⟨_, rfl⟩
  have CC0 := hide (fun j => CC.out j)
  rw [hW0] at B0 HZ g1 CC0 ⊢
  clear hW0 CC
  have hz0 : w.heap.size < W0.heap.size := by have := HZ.out; omega
  refine (P1.out _ g1.out (by have := HZ.out; omega)).mono ?_
  rintro e w1 ⟨⟨A1, rfl, R1⟩, b1⟩
  have R1 := hide R1
  have B1 := hide b1
  have hz1 := b1.size
  have x0 := (b1.cell (p := ⟨w.heap.size, 0, none⟩) (by have := HZ.out; show w.heap.size < _; omega)).trans (CC0.out 0)
  have x1 := (b1.cell (p := ⟨w.heap.size, 1, none⟩) (by have := HZ.out; show w.heap.size < _; omega)).trans (CC0.out 1)
  have x2 := (b1.cell (p := ⟨w.heap.size, 2, none⟩) (by have := HZ.out; show w.heap.size < _; omega)).trans (CC0.out 2)
  clear b1 CC0
  go_wp2_with fail
  refine (P2.out _).mono ?_
  rintro e w2 ⟨⟨v2, rfl, O2⟩, b2⟩
  obtain ⟨A2, c2', rfl, S2⟩ := own_sl O2 HM.out
  have S2 := hide S2
  have B2 := hide b2
  have hz2 := b2.size
  have y0 := (b2.cell (p := ⟨w.heap.size, 0, none⟩) (by have := HZ.out; show w.heap.size < _; omega)).trans x0
  have y1 := (b2.cell (p := ⟨w.heap.size, 1, none⟩) (by have := HZ.out; show w.heap.size < _; omega)).trans x1
  have y2 := (b2.cell (p := ⟨w.heap.size, 2, none⟩) (by have := HZ.out; show w.heap.size < _; omega)).trans x2
  clear b2 x0 x1 x2 O2
  have hbb : (ok != ok) = false := by cases ok <;> rfl
  go_wp2_with fail
  have R12 := hide (R1.out.below B2.out (Nat.le_refl _))
  have S1 := hide (row_sl R12.out)
  have g2 := hide ((g1.out.below B1.out (by omega)).below B2.out (by omega))
  have hmx : m ≤ maxLen := by unfold maxLen; omega
  go_quiet ((first | (go_at_call 41; exact Calls.quiet_of (samenums_eq A1 A2 m m c2' _ _ L _ HM.out hmx (S1.out.drewN _) (S2.out.drewN _))) | (go_at_call 42; exact Calls.quiet_of (Q1.out _ g2.out)) | (go_at_call 43; exact Calls.quiet_of_same (flipw (Q2.out _)))))
  go_wp2_with fail
  clear Q1 Q2 P2 S1 S2 R1
  refine (P1.out _ (by exact g2.out) (by show 0 < w2.heap.size; omega)).mono ?_
  rintro e w3 ⟨⟨A3, rfl, R3⟩, b3⟩
  go_wp2_with fail
  have hz3 := b3.size
  have hz3 : w2.heap.size ≤ w3.heap.size := hz3
  have b23 : Below w2.heap.size w2 w3 := (below_drewN (Below.refl w2.heap.size w2) nq).trans b3
  have R1 := hide (R12.out.below b23 (Nat.le_refl _))
  have R3 := hide (show IntRow w3 w2.heap.size A3 L from R3)
  have B3 := hide (((B0.out.trans (B1.out.mono (by omega))).trans (B2.out.mono (by omega))).trans (b23.mono (by omega)))
  have lt1 := hide (fun g h => R12.out.lt (g := g) h)
  have lt3 := hide (fun g h => R3.out.lt (g := g) h)
  clear b3 b23 B0 B1 B2 R12 P1 hbb g1 g2 y0 y1 y2
  have N0 := hide (bok_new w3)
  refine (bknote_any _ m A1 _ _ _ N0.out (by simp) hmx).mono ?_
  rintro e w4 ⟨rfl, v4, K4, o4, F4⟩
  have hz4 := F4.size
  have hz4 : w3.heap.size + 1 ≤ w4.heap.size := by rw [alloc_size] at hz4; exact hz4
  have K4 := hide K4
  have o4 := hide o4
  have F4 := hide (((Far.refl (fun k => k = w3.heap.size ∨ (Value.slice none 0 0).ownBlock = some k) w3).alloc (.cells #[.slice none 0 0, .slice none 0 0, .slice none 0 0, .bool false] 70)).trans F4)
  clear N0
  go_wp2_with fail
  refine (bknote_any _ m A3 _ _ _ K4.out (by simp) hmx).mono ?_
  rintro e w5 ⟨rfl, v5, K5, o5, F5⟩
  have hz5 := F5.size
  have hv5 := hide (fun g hg => (World.ownsRow.lt K5.2 g hg).1)
  have K5 := hide K5
  have F5 := hide F5
  have q4 := hide (fun g (h : v4.ownBlock = some g) => show w3.heap.size < g from (World.ownsRow.lt K4.out.2 g h).1)
  have R15 := hide ((R1.out.far F4.out (fun g h e => by have := lt1.out g h; simp [Value.ownBlock] at e; omega)).far F5.out (fun g h e => by
    have := lt1.out g h
    rcases e with e | e
    · omega
    · have := q4.out g e; omega))
  have R35 := hide ((R3.out.far F4.out (fun g h e => by have := lt3.out g h; simp [Value.ownBlock] at e; omega)).far F5.out (fun g h e => by
    have := lt3.out g h
    rcases e with e | e
    · omega
    · have := q4.out g e; omega))
  have HH := hide (two_hold HM.out R15.out R35.out)
  have HS := hide (two_sep (m := m) (m' := m) (b := w2.heap.size) (B := w3.heap.size) (v := v5) (fun g h => (lt1.out g h).2) (fun g h => lt3.out g h) hz3 (fun g h => by have := hv5.out g h; omega))
  have B5 := hide (far_below (far_below B3.out F4.out (by rintro k (rfl | h) <;> first | omega | simp [Value.ownBlock] at h) (by omega)) F5.out (by
    rintro k (rfl | h)
    · omega
    · have := q4.out k h; omega) (by omega))
  have HB := hide (fun k (h : Blk [⟨A1, m⟩, ⟨A3, m⟩] k) => two_blk (b := w.heap.size) h (fun g h => by have := (lt1.out g h).1; omega) (fun g h => by have := (lt3.out g h).1; omega))
  clear R1 R3 R15 R35 F4 K4 o4 o5 B3 q4 hv5
  go_wp2_with fail
  refine (bkapart_any _ _ _ _ _ K5.out (by simp) (by simp) (by
    intro i r hr
    match i, hr with
    | 0, hr => cases hr; exact hmx
    | 1, hr => cases hr; exact hmx) HH.out HS.out).mono ?_
  rintro e w6 ⟨rfl, F6⟩
  have hz6 := F6.size
  have B6 := hide (far_below B5.out F6 HB.out (by omega))
  clear F6 HH HS HB K5 F5 B5
  have g6 := hide (GS.out.below B6.out hs)
  go_wp2_with fail
  refine (rlives_any _ g6.out).mono ?_
  rintro e w7 ⟨rfl, b7⟩
  have B7 := hide (B6.out.trans (b7.mono (by omega)))
  clear b7
  go_wp2_with fail
  go_ret
  exact ⟨rfl, B7.out⟩
end Go.Proofs.YtbniijmabebhoaaDoor
