/- The walk of LinesKinds: lines of texts, and of lists of one text, carry what was sent as the hop says; nothing that was there has turned. -/
import Derived.Test.YtbniijmabebhoaaLives
import Derived.Test.YtbniijmabebhoaaLinesStr
import Derived.Test.YtbniijmabebhoaaLinesSls
import Derived.Deep.LoopGhost
import Derived.Deep.RegionHeld3
namespace Go.Proofs.Ytbniijmabebhoaa
open Go.RowKit
set_option linter.unusedVariables false
/-- What was sent k ticks ago, both ways: a text, and a list of this text. -/
def Itm (w : World) (N0 : Nat) (ss : List ByteArray) (i k : Nat) (x : ByteArray) (A : Option Addr) (n c : Nat) (b : Bool) : Prop :=
  (i < k ∧ x = ⟨#[]⟩ ∧ A = none ∧ n = 0 ∧ c = 0 ∧ b = false) ∨
  ∃ g, k ≤ i ∧ ss[i - k]? = some x ∧ A = some ⟨g, 0, none⟩ ∧ n = 1 ∧ c = 1 ∧ b = true ∧ N0 ≤ g ∧ w.cell? ⟨g, 0, none⟩ = some (.string x)
theorem Itm.far {S : Nat → Prop} {w w' : World} {N0 i k n c : Nat} {ss : List ByteArray} {x : ByteArray} {A : Option Addr} {b : Bool} (h : Itm w N0 ss i k x A n c b) (hf : Far S w w') (hs : ∀ g, S g → g < N0) : Itm w' N0 ss i k x A n c b := by
  rcases h with h | ⟨g, h1, h2, h3, h4, h5, h6, h7, h8⟩
  · exact .inl h
  · exact .inr ⟨g, h1, h2, h3, h4, h5, h6, h7, cell_far hf h8 (fun h => by have := hs g h; show False; omega)⟩
theorem Itm.succ {w : World} {N0 i k n c : Nat} {ss : List ByteArray} {x : ByteArray} {A : Option Addr} {b : Bool} (h : Itm w N0 ss i k x A n c b) : Itm w N0 ss (i + 1) (k + 1) x A n c b := by
  rcases h with ⟨h1, h⟩ | ⟨g, h1, h2, h⟩
  · exact .inl ⟨by omega, h⟩
  · exact .inr ⟨g, by omega, by rw [show i + 1 - (k + 1) = i - k by omega]; exact h2, h⟩
theorem strs_of {xs : List Value} (h : ∀ u ∈ xs, FK.str.ok u) : ∃ ss : List ByteArray, xs = ss.map .string := by
  induction xs with
  | nil => exact ⟨[], rfl⟩
  | cons u r ih =>
    obtain ⟨b, rfl, _⟩ := h u (by simp)
    obtain ⟨bs, rfl⟩ := ih (fun v hv => h v (by simp [hv]))
    exact ⟨b :: bs, rfl⟩
theorem newStr1 (w : World) : Calls Try.prog 26 #[.int .i64 1] w fun e w' => ∃ B R : Nat, e = .returned (.tuple #[.pointer (some ⟨B, 0, none⟩), .int .i64 0]) ∧ Ln w' 95 100 B R 1 #[.string ⟨#[]⟩, .bool false] 0 ∧ w.heap.size ≤ B ∧ w.heap.size ≤ R ∧ B < w'.heap.size ∧ R < w'.heap.size ∧ ¬ B = R ∧ Far (fun _ => False) w w' :=
  (L_str.new1 w).mono fun e w' ⟨he, hL, hF⟩ => ⟨_, _, he, hL, by omega, by omega, lt_of_blk hL.1, lt_of_blk hL.2, by omega, hF⟩
theorem newStr2 (w : World) : Calls Try.prog 26 #[.int .i64 2] w fun e w' => ∃ B R : Nat, e = .returned (.tuple #[.pointer (some ⟨B, 0, none⟩), .int .i64 0]) ∧ Ln w' 95 100 B R 2 #[.string ⟨#[]⟩, .bool false, .string ⟨#[]⟩, .bool false] 0 ∧ w.heap.size ≤ B ∧ w.heap.size ≤ R ∧ B < w'.heap.size ∧ R < w'.heap.size ∧ ¬ B = R ∧ Far (fun _ => False) w w' :=
  (L_str.new2 w).mono fun e w' ⟨he, hL, hF⟩ => ⟨_, _, he, hL, by omega, by omega, lt_of_blk hL.1, lt_of_blk hL.2, by omega, hF⟩
theorem newSls1 (w : World) : Calls Try.prog 27 #[.int .i64 1] w fun e w' => ∃ B R : Nat, e = .returned (.tuple #[.pointer (some ⟨B, 0, none⟩), .int .i64 0]) ∧ Ln w' 98 102 B R 1 #[.slice none 0 0, .bool false] 0 ∧ w.heap.size ≤ B ∧ w.heap.size ≤ R ∧ B < w'.heap.size ∧ R < w'.heap.size ∧ ¬ B = R ∧ Far (fun _ => False) w w' :=
  (L_sls.new1 w).mono fun e w' ⟨he, hL, hF⟩ => ⟨_, _, he, hL, by omega, by omega, lt_of_blk hL.1, lt_of_blk hL.2, by omega, hF⟩
theorem newSls2 (w : World) : Calls Try.prog 27 #[.int .i64 2] w fun e w' => ∃ B R : Nat, e = .returned (.tuple #[.pointer (some ⟨B, 0, none⟩), .int .i64 0]) ∧ Ln w' 98 102 B R 2 #[.slice none 0 0, .bool false, .slice none 0 0, .bool false] 0 ∧ w.heap.size ≤ B ∧ w.heap.size ≤ R ∧ B < w'.heap.size ∧ R < w'.heap.size ∧ ¬ B = R ∧ Far (fun _ => False) w w' :=
  (L_sls.new2 w).mono fun e w' ⟨he, hL, hF⟩ => ⟨_, _, he, hL, by omega, by omega, lt_of_blk hL.1, lt_of_blk hL.2, by omega, hF⟩
theorem far_of_below {a b : World} (h : Below a.heap.size a b) : Far (fun _ => False) a b := ⟨h.os, h.tape, h.output, h.size, fun k hk _ => h.block k hk⟩
structure KSt (w6 : World) (p : Addr) (s : ByteArray) (q : Addr) (v : Value) (W : World) : Prop where
  c1 : W.cell? p = some (.string s)
  c2 : W.cell? q = some v
  far : Far (fun _ => False) w6 W
theorem KSt.all {w6 W : World} {p q : Addr} {s : ByteArray} {v : Value} (h : KSt w6 p s q v W) : W.cell? p = some (.string s) ∧ W.cell? q = some v ∧ KSt w6 p s q v W := ⟨h.c1, h.c2, h⟩
theorem KSt.drew {w6 W : World} {p q : Addr} {s : ByteArray} {v : Value} (h : KSt w6 p s q v W) : KSt w6 p s q v W.drew := ⟨h.c1, h.c2, h.far.drew⟩
theorem KSt.alloc {w6 W : World} {p q : Addr} {s : ByteArray} {v : Value} (h : KSt w6 p s q v W) (o : Obj) : KSt w6 p s q v (W.alloc o) :=
  ⟨(World.cell?_alloc_lt W o p (lt_of_cell h.c1)).trans h.c1, (World.cell?_alloc_lt W o q (lt_of_cell h.c2)).trans h.c2, h.far.alloc o⟩
theorem kst_send {w6 W : World} {p : Addr} {s : ByteArray} (Ba Ra h : Nat) (A : Option Addr) (n c : Nat) (hh : 0 < h) (hn : 1 < n) (H : W.cell? p = some (.string s) ∧ W.cell? ⟨Ba, 0, none⟩ = some (.slice (some ⟨Ra, 0, none⟩) h h) ∧ KSt w6 p s ⟨Ba, 0, none⟩ (.slice (some ⟨Ra, 0, none⟩) h h) W) :
    Calls Try.prog 31 #[.pointer (some ⟨Ba, 0, none⟩), .slice A n c] W fun e w' => e = .returned (.int .i64 1) ∧ w'.cell? p = some (.string s) ∧ w'.cell? ⟨Ba, 0, none⟩ = some (.slice (some ⟨Ra, 0, none⟩) h h) ∧ KSt w6 p s ⟨Ba, 0, none⟩ (.slice (some ⟨Ra, 0, none⟩) h h) w' :=
  (L_str.send_many Ba Ra h A n c W hh hn H.2.1).mono fun e w' ⟨he, hw⟩ => ⟨he, by rw [← hw]; exact H⟩
set_option maxRecDepth 100000 in
set_option maxHeartbeats 20000000 in
theorem kinds_walk1 (A0 : Option Addr) (ss : List ByteArray) (len cap : Nat) (w : World) (hl : ss.length = len) (hs : len ≤ 100) (hr : Sl w w.heap.size A0 (ss.map .string)) :
    Calls Try.prog 6 #[.slice A0 len cap, .bool false] w fun e w' => e = .returned (.bool true) ∧ Below w.heap.size w w' := by
  have HL := hide hl
  have HR := hide hr
  clear hl hr
  go_enter Try.func6, Try.ntmps6
  go_wp2_with fail
  refine (newStr1 _).mono ?_
  rintro e w1 ⟨Ba, Ra, rfl, La, o1, o1', z1, z1', n1, F1⟩
  have b1 := hide (below_of_far F1)
  go_wp2_with fail
  refine (newSls1 _).mono ?_
  rintro e w2 ⟨Bb, Rb, rfl, Lb, o2, o2', z2, z2', n2, F2⟩
  have Ka := hide (La.far F2 (fun h => h) (fun h => h))
  have Kb := hide Lb
  have b2 := hide (b1.out.trans ((below_of_far F2).mono b1.out.size))
  have z3 := F1.size
  have z4 := F2.size
  have hn0 : ∃ N0 : Nat, w2.heap.size = N0 := ⟨_, rfl⟩
  obtain ⟨N0, hN0⟩ := hn0
  have hN1 : N0 ≤ w2.heap.size := by omega
  have c1 : Ba < N0 ∧ Ra < N0 ∧ Bb < N0 ∧ Rb < N0 := by omega
  have c2 : ¬ Bb = Ba ∧ ¬ Bb = Ra ∧ ¬ Rb = Ba ∧ ¬ Rb = Ra := by omega
  have c3 : w.heap.size ≤ Ba ∧ w.heap.size ≤ Ra ∧ w.heap.size ≤ Bb ∧ w.heap.size ≤ Rb := by omega
  have c4 : w.heap.size ≤ N0 := by omega
  obtain ⟨c1a, c1b, c1c, c1d⟩ := c1
  obtain ⟨c2a, c2b, c2c, c2d⟩ := c2
  obtain ⟨c3a, c3b, c3c, c3d⟩ := c3
  clear La Lb F1 F2 b1 o1 o1' z1 z1' n1 o2 o2' z2 z2' n2 z3 z4 hN0
  have dl : decide ((100 : Int) < len) = false := decide_eq_false (by omega)
  go_wp2_with fail
  go_loopg [10] len (fun gk k wr => ∃ i : Nat, gk + i = len ∧ k = .int .i64 i ∧ N0 ≤ wr.heap.size ∧ ∃ (x : ByteArray) (A : Option Addr) (n c : Nat) (b : Bool), Hid (Ln wr 95 100 Ba Ra 1 #[.string x, .bool b] i) ∧ Hid (Ln wr 98 102 Bb Rb 1 #[.slice A n c, .bool b] i) ∧ Hid (Itm wr N0 ss i 1 x A n c b) ∧ Hid (Below w.heap.size w wr))
  case atStart => exact ⟨0, rfl, rfl, hN1, ⟨#[]⟩, none, 0, 0, false, Ka, Kb, .inl ⟨by omega, rfl, rfl, rfl, rfl, rfl⟩, b2⟩
  case round =>
    obtain ⟨i, hgk, rfl, hN, x, A, n, c, b, K1, K2, I1, KB⟩ := hrel
    clear Ka Kb b2 hN1
    by_cases hlt : i < len
    · obtain ⟨ad, rfl, hblk, hc0⟩ := HR.out.at_ (k := i) (by simpa [HL.out] using hlt)
      rw [List.getElem_map] at hc0
      have hgi := hide (show ss[i]? = some (ss[i]'(by rw [HL.out]; exact hlt)) from List.getElem?_eq_getElem _)
      obtain ⟨s, hsi⟩ : ∃ s, ss[i]'(by rw [HL.out]; exact hlt) = s := ⟨_, rfl⟩
      rw [hsi] at hc0 hgi
      clear hsi
      have HC := hide (fun (W : World) (hb : Below w.heap.size w W) => (hb.cell (p := ad.add i) (by rw [add_block]; exact hblk)).trans hc0)
      have HA := hide (fun (j : Nat) (x : ByteArray) (hx : ss[j]? = some x) => show w.cell? (ad.add j) = some (.string x) ∧ (ad.add j).block < w.heap.size from by
        obtain ⟨ad', e, hb, hc⟩ := HR.out j (.string x) (by rw [List.getElem?_map, hx]; rfl)
        cases e
        exact ⟨hc, by rw [add_block]; exact hb⟩)
      clear hc0
      have hdi : decide ((i : Int) < len) = true := decide_eq_true (by omega)

      have J1 := I1.out
      rcases J1 with ⟨h1, rfl, rfl, rfl, rfl, rfl⟩ | ⟨g, h1, h2, rfl, rfl, rfl, rfl, h7, h8⟩
      · as_aux_lemma =>
        have dm : decide ((1 : Int) ≤ i) = false := decide_eq_false (by omega)
        have hm0 : min (i : Int) 0 = 0 := by omega
        go_wp2_with fail
        refine (L_str.here_any _ _ 1 _ _ _ (by omega) (row_cell K1.out.1 0) (row_cell K1.out.2 0) (row_cell K1.out.2 1)).mono ?_
        rintro e w4 ⟨rfl, m1, rfl⟩
        go_wp2_with fail
        refine (L_sls.here_any _ _ 1 _ _ _ _ _ (by omega) (row_cell (K2.out.drewN m1).1 0) (row_cell (K2.out.drewN m1).2 0) (row_cell (K2.out.drewN m1).2 1)).mono ?_
        rintro e w4 ⟨rfl, m2, rfl⟩
        go_wp2_with fail
        obtain ⟨w3, hw3⟩ : ∃ w3, wr.drewN (m1 + m2) = w3 := ⟨_, rfl⟩
        have F3 : Hid (Far (fun _ => False) wr w3) := by rw [← hw3]; exact (Far.refl _ wr).drewN _
        rw [hw3]
        clear hw3
        have K1 := hide (K1.out.far F3.out (fun h => h) (fun h => h))
        refine (L_str.way1 _ _ _ (row_cell K1.out.1 0)).mono ?_
        rintro e w4 ⟨rfl, rfl⟩
        have F4 := hide F3.out
        have K2 := hide (K2.out.far F4.out (fun h => h) (fun h => h))
        have B4 := hide (Far.below KB.out F4.out KB.out.size (fun k h => h.elim))
        have cs := HC.out w3 B4.out
        have z4 := F4.out.size
        go_wp2_with fail
        refine (L_str.send1s _ _ _ _ _ s ⟨w3.heap.size, 0, none⟩ 1 _ (by omega) (by omega) (K1.out.alloc _) (cell_new w3 #[.string s] 9 (0, 0) 0)).mono ?_
        rintro e w5 ⟨rfl, L1, F5⟩
        have F5 := hide (((Far.refl _ w3).alloc _).trans F5)
        have B5 := hide (Far.below B4.out F5.out B4.out.size (by rintro k (rfl | rfl) <;> omega))
        have z5 := F5.out.size
        have cs := HC.out w5 B5.out
        have L2 := hide (K2.out.far F5.out (by rintro (h | h) <;> omega) (by rintro (h | h) <;> omega))
        have L1 := hide L1
        clear K1 K2
        go_wp2_with fail
        have hgc := hide (show ((w5.alloc (.cells #[.string s] 9)).alloc (.cells #[.slice (some ⟨w5.heap.size, 0, none⟩) 1 1] 63)).cell? ⟨w5.heap.size, 0, none⟩ = some (.string s) from (World.cell?_alloc_lt _ _ _ (by simp)).trans (cell_new w5 #[.string s] 9 (0, 0) 0))
        have hgv := hide (cell_new' (w5.alloc (.cells #[.string s] 9)) #[.slice (some ⟨w5.heap.size, 0, none⟩) 1 1] 63 (0, 0) 0 (w5.heap.size + 1) (by simp))
        refine (L_sls.send1s _ _ _ _ _ _ _ (some ⟨w5.heap.size, 0, none⟩) 1 1 ⟨w5.heap.size + 1, 0, none⟩ 1 _ (by omega) (by omega) ((L2.out.alloc _).alloc _) hgv.out).mono ?_
        rintro e w6 ⟨rfl, L3, F6⟩
        have hgc := hide (cell_far F6 hgc.out (by rintro (h | h) <;> (have h : w5.heap.size = _ := h; omega)))
        have F6 := hide ((((Far.refl _ w5).alloc _).alloc _).trans F6)
        have B6 := hide (Far.below B5.out F6.out B5.out.size (by rintro k (rfl | rfl) <;> omega))
        have z6 := F6.out.size
        have cs := HC.out w6 B6.out
        have L1 := hide (L1.out.far F6.out (by rintro (h | h) <;> omega) (by rintro (h | h) <;> omega))
        have L2 := hide L3
        clear L3
        have ca : w6.cell? ⟨Ba, 0, none⟩ = some (.slice (some ⟨Ra, 0, none⟩) 1 1) := row_cell L1.out.1 0
        have hz : (0 : Int) ≤ i := by omega
        have hz' : (i : Int) < len := by omega
        have KS := KSt.mk cs ca (Far.refl _ _)
        go_wp2_with fail
        go_region_held3 (fun w' => w'.cell? (ad.add i) = some (.string s) ∧ w'.cell? ⟨Ba, 0, none⟩ = some (.slice (some ⟨Ra, 0, none⟩) 1 1) ∧ KSt w6 (ad.add i) s ⟨Ba, 0, none⟩ (.slice (some ⟨Ra, 0, none⟩) 1 1) w')
          (first | exact ⟨by assumption, by assumption, by assumption⟩ | exact KSt.all (KSt.drew (by assumption)) | exact KSt.all (KSt.alloc (by assumption) _) | exact KSt.all (KSt.drew (KSt.alloc (by assumption) _)))
          (first | (go_at_call 31; refine (kst_send (w6 := w6) (p := ad.add i) (s := s) Ba Ra 1 _ _ _ (by omega) (by omega) (by first | assumption | exact ⟨by assumption, by assumption, by assumption⟩)).mono ?_; rintro e w' ⟨rfl, k1, k2, k3⟩))
        rename_i KE
        have KF := hide KE.2.2.far
        clear KE
        have z7 := KF.out.size
        have FF := hide ((((F4.out.wide (S' := fun k => k = Ba ∨ k = Ra ∨ k = Bb ∨ k = Rb) (fun k h => h.elim)).trans (F5.out.wide (by rintro k (h | h) <;> simp [h]))).trans (F6.out.wide (by rintro k (h | h) <;> simp [h]))).trans (KF.out.wide (fun k h => h.elim)))
        go_wp2_with fail
        go_roundg (gk - 1)
        case measure => omega
        case rel =>
          refine ⟨i + 1, by omega, by go_num, by omega, s, _, 1, 1, true, L1.out.far KF.out (fun h => h) (fun h => h), L2.out.far KF.out (fun h => h) (fun h => h), .inr ⟨w5.heap.size, by omega, hgi.out, rfl, rfl, rfl, rfl, by omega, cell_far KF.out hgc.out (fun h => h)⟩, Far.below B6.out KF.out B6.out.size (fun k h => h.elim)⟩
      · as_aux_lemma =>
        have dm : decide ((1 : Int) ≤ i) = true := decide_eq_true (by omega)
        obtain ⟨cx, cxb⟩ := HA.out _ _ h2
        have cx := (KB.out.cell cxb).trans cx
        have hi0 : (0 : Int) ≤ (i : Int) - 1 := by omega
        have hi1 : (i : Int) - 1 < len := by omega
        clear h2 cxb
        have hm0 : min (i : Int) 0 = 0 := by omega
        go_wp2_with fail
        refine (L_str.here_any _ _ 1 _ _ _ (by omega) (row_cell K1.out.1 0) (row_cell K1.out.2 0) (row_cell K1.out.2 1)).mono ?_
        rintro e w4 ⟨rfl, m1, rfl⟩
        go_wp2_with fail
        refine (L_sls.here_any _ _ 1 _ _ _ _ _ (by omega) (row_cell (K2.out.drewN m1).1 0) (row_cell (K2.out.drewN m1).2 0) (row_cell (K2.out.drewN m1).2 1)).mono ?_
        rintro e w4 ⟨rfl, m2, rfl⟩
        go_wp2_with fail
        obtain ⟨w3, hw3⟩ : ∃ w3, wr.drewN (m1 + m2) = w3 := ⟨_, rfl⟩
        have F3 : Hid (Far (fun _ => False) wr w3) := by rw [← hw3]; exact (Far.refl _ wr).drewN _
        rw [hw3]
        clear hw3
        have K1 := hide (K1.out.far F3.out (fun h => h) (fun h => h))
        refine (L_str.way1 _ _ _ (row_cell K1.out.1 0)).mono ?_
        rintro e w4 ⟨rfl, rfl⟩
        have F4 := hide F3.out
        have K2 := hide (K2.out.far F4.out (fun h => h) (fun h => h))
        have B4 := hide (Far.below KB.out F4.out KB.out.size (fun k h => h.elim))
        have cs := HC.out w3 B4.out
        have z4 := F4.out.size
        go_wp2_with fail
        refine (L_str.send1s _ _ _ _ _ s ⟨w3.heap.size, 0, none⟩ 1 _ (by omega) (by omega) (K1.out.alloc _) (cell_new w3 #[.string s] 9 (0, 0) 0)).mono ?_
        rintro e w5 ⟨rfl, L1, F5⟩
        have F5 := hide (((Far.refl _ w3).alloc _).trans F5)
        have B5 := hide (Far.below B4.out F5.out B4.out.size (by rintro k (rfl | rfl) <;> omega))
        have z5 := F5.out.size
        have cs := HC.out w5 B5.out
        have L2 := hide (K2.out.far F5.out (by rintro (h | h) <;> omega) (by rintro (h | h) <;> omega))
        have L1 := hide L1
        clear K1 K2
        go_wp2_with fail
        have hgc := hide (show ((w5.alloc (.cells #[.string s] 9)).alloc (.cells #[.slice (some ⟨w5.heap.size, 0, none⟩) 1 1] 63)).cell? ⟨w5.heap.size, 0, none⟩ = some (.string s) from (World.cell?_alloc_lt _ _ _ (by simp)).trans (cell_new w5 #[.string s] 9 (0, 0) 0))
        have hgv := hide (cell_new' (w5.alloc (.cells #[.string s] 9)) #[.slice (some ⟨w5.heap.size, 0, none⟩) 1 1] 63 (0, 0) 0 (w5.heap.size + 1) (by simp))
        refine (L_sls.send1s _ _ _ _ _ _ _ (some ⟨w5.heap.size, 0, none⟩) 1 1 ⟨w5.heap.size + 1, 0, none⟩ 1 _ (by omega) (by omega) ((L2.out.alloc _).alloc _) hgv.out).mono ?_
        rintro e w6 ⟨rfl, L3, F6⟩
        have hgc := hide (cell_far F6 hgc.out (by rintro (h | h) <;> (have h : w5.heap.size = _ := h; omega)))
        have F6 := hide ((((Far.refl _ w5).alloc _).alloc _).trans F6)
        have B6 := hide (Far.below B5.out F6.out B5.out.size (by rintro k (rfl | rfl) <;> omega))
        have z6 := F6.out.size
        have cs := HC.out w6 B6.out
        have L1 := hide (L1.out.far F6.out (by rintro (h | h) <;> omega) (by rintro (h | h) <;> omega))
        have L2 := hide L3
        clear L3
        have ca : w6.cell? ⟨Ba, 0, none⟩ = some (.slice (some ⟨Ra, 0, none⟩) 1 1) := row_cell L1.out.1 0
        have hz : (0 : Int) ≤ i := by omega
        have hz' : (i : Int) < len := by omega
        have KS := KSt.mk cs ca (Far.refl _ _)
        go_wp2_with fail
        go_region_held3 (fun w' => w'.cell? (ad.add i) = some (.string s) ∧ w'.cell? ⟨Ba, 0, none⟩ = some (.slice (some ⟨Ra, 0, none⟩) 1 1) ∧ KSt w6 (ad.add i) s ⟨Ba, 0, none⟩ (.slice (some ⟨Ra, 0, none⟩) 1 1) w')
          (first | exact ⟨by assumption, by assumption, by assumption⟩ | exact KSt.all (KSt.drew (by assumption)) | exact KSt.all (KSt.alloc (by assumption) _) | exact KSt.all (KSt.drew (KSt.alloc (by assumption) _)))
          (first | (go_at_call 31; refine (kst_send (w6 := w6) (p := ad.add i) (s := s) Ba Ra 1 _ _ _ (by omega) (by omega) (by first | assumption | exact ⟨by assumption, by assumption, by assumption⟩)).mono ?_; rintro e w' ⟨rfl, k1, k2, k3⟩))
        rename_i KE
        have KF := hide KE.2.2.far
        clear KE
        have z7 := KF.out.size
        have FF := hide ((((F4.out.wide (S' := fun k => k = Ba ∨ k = Ra ∨ k = Bb ∨ k = Rb) (fun k h => h.elim)).trans (F5.out.wide (by rintro k (h | h) <;> simp [h]))).trans (F6.out.wide (by rintro k (h | h) <;> simp [h]))).trans (KF.out.wide (fun k h => h.elim)))
        go_wp2_with fail
        go_roundg (gk - 1)
        case measure => omega
        case rel =>
          refine ⟨i + 1, by omega, by go_num, by omega, s, _, 1, 1, true, L1.out.far KF.out (fun h => h) (fun h => h), L2.out.far KF.out (fun h => h) (fun h => h), .inr ⟨w5.heap.size, by omega, hgi.out, rfl, rfl, rfl, rfl, by omega, cell_far KF.out hgc.out (fun h => h)⟩, Far.below B6.out KF.out B6.out.size (fun k h => h.elim)⟩
    · go_wp2_with fail
      refine (L_str.ticks_any _ _ 1 _ _ (by omega) (row_cell K1.out.1 0) (row_cell K1.out.1 1)).mono ?_
      rintro e w4 ⟨rfl, rfl⟩
      obtain rfl : i = len := by omega
      go_wp2_with fail
      refine (lives_any _).mono ?_
      rintro e w' ⟨rfl, hb⟩
      have HB := hide (KB.out.trans (hb.mono KB.out.size))
      clear hb
      go_wp2_with fail
      go_ret
      exact ⟨rfl, HB.out⟩
set_option maxRecDepth 100000 in
set_option maxHeartbeats 20000000 in
theorem kinds_walk2 (A0 : Option Addr) (ss : List ByteArray) (len cap : Nat) (w : World) (hl : ss.length = len) (hs : len ≤ 100) (hr : Sl w w.heap.size A0 (ss.map .string)) :
    Calls Try.prog 6 #[.slice A0 len cap, .bool true] w fun e w' => e = .returned (.bool true) ∧ Below w.heap.size w w' := by
  have HL := hide hl
  have HR := hide hr
  clear hl hr
  go_enter Try.func6, Try.ntmps6
  go_wp2_with fail
  refine (newStr2 _).mono ?_
  rintro e w1 ⟨Ba, Ra, rfl, La, o1, o1', z1, z1', n1, F1⟩
  have b1 := hide (below_of_far F1)
  go_wp2_with fail
  refine (newSls2 _).mono ?_
  rintro e w2 ⟨Bb, Rb, rfl, Lb, o2, o2', z2, z2', n2, F2⟩
  have Ka := hide (La.far F2 (fun h => h) (fun h => h))
  have Kb := hide Lb
  have b2 := hide (b1.out.trans ((below_of_far F2).mono b1.out.size))
  have z3 := F1.size
  have z4 := F2.size
  have hn0 : ∃ N0 : Nat, w2.heap.size = N0 := ⟨_, rfl⟩
  obtain ⟨N0, hN0⟩ := hn0
  have hN1 : N0 ≤ w2.heap.size := by omega
  have c1 : Ba < N0 ∧ Ra < N0 ∧ Bb < N0 ∧ Rb < N0 := by omega
  have c2 : ¬ Bb = Ba ∧ ¬ Bb = Ra ∧ ¬ Rb = Ba ∧ ¬ Rb = Ra := by omega
  have c3 : w.heap.size ≤ Ba ∧ w.heap.size ≤ Ra ∧ w.heap.size ≤ Bb ∧ w.heap.size ≤ Rb := by omega
  have c4 : w.heap.size ≤ N0 := by omega
  obtain ⟨c1a, c1b, c1c, c1d⟩ := c1
  obtain ⟨c2a, c2b, c2c, c2d⟩ := c2
  obtain ⟨c3a, c3b, c3c, c3d⟩ := c3
  clear La Lb F1 F2 b1 o1 o1' z1 z1' n1 o2 o2' z2 z2' n2 z3 z4 hN0
  have dl : decide ((100 : Int) < len) = false := decide_eq_false (by omega)
  go_wp2_with fail
  go_loopg [10] len (fun gk k wr => ∃ i : Nat, gk + i = len ∧ k = .int .i64 i ∧ N0 ≤ wr.heap.size ∧ ∃ (x : ByteArray) (A : Option Addr) (n c : Nat) (b : Bool) (y : ByteArray) (A' : Option Addr) (n' c' : Nat) (d : Bool), Hid (Ln wr 95 100 Ba Ra 2 #[.string x, .bool b, .string y, .bool d] i) ∧ Hid (Ln wr 98 102 Bb Rb 2 #[.slice A n c, .bool b, .slice A' n' c', .bool d] i) ∧ Hid (Itm wr N0 ss i 2 x A n c b) ∧ Hid (Itm wr N0 ss i 1 y A' n' c' d) ∧ Hid (Below w.heap.size w wr))
  case atStart => exact ⟨0, rfl, rfl, hN1, ⟨#[]⟩, none, 0, 0, false, ⟨#[]⟩, none, 0, 0, false, Ka, Kb, .inl ⟨by omega, rfl, rfl, rfl, rfl, rfl⟩, .inl ⟨by omega, rfl, rfl, rfl, rfl, rfl⟩, b2⟩
  case round =>
    obtain ⟨i, hgk, rfl, hN, x, A, n, c, b, y, A', n', c', d, K1, K2, I1, I2, KB⟩ := hrel
    clear Ka Kb b2 hN1
    by_cases hlt : i < len
    · obtain ⟨ad, rfl, hblk, hc0⟩ := HR.out.at_ (k := i) (by simpa [HL.out] using hlt)
      rw [List.getElem_map] at hc0
      have hgi := hide (show ss[i]? = some (ss[i]'(by rw [HL.out]; exact hlt)) from List.getElem?_eq_getElem _)
      obtain ⟨s, hsi⟩ : ∃ s, ss[i]'(by rw [HL.out]; exact hlt) = s := ⟨_, rfl⟩
      rw [hsi] at hc0 hgi
      clear hsi
      have HC := hide (fun (W : World) (hb : Below w.heap.size w W) => (hb.cell (p := ad.add i) (by rw [add_block]; exact hblk)).trans hc0)
      have HA := hide (fun (j : Nat) (x : ByteArray) (hx : ss[j]? = some x) => show w.cell? (ad.add j) = some (.string x) ∧ (ad.add j).block < w.heap.size from by
        obtain ⟨ad', e, hb, hc⟩ := HR.out j (.string x) (by rw [List.getElem?_map, hx]; rfl)
        cases e
        exact ⟨hc, by rw [add_block]; exact hb⟩)
      clear hc0
      have hdi : decide ((i : Int) < len) = true := decide_eq_true (by omega)

      have J1 := I1.out
      have J2 := I2.out
      rcases J1 with ⟨h1, rfl, rfl, rfl, rfl, rfl⟩ | ⟨g, h1, h2, rfl, rfl, rfl, rfl, h7, h8⟩ <;> rcases J2 with ⟨q1, rfl, rfl, rfl, rfl, rfl⟩ | ⟨g', q1, q2, rfl, rfl, rfl, rfl, q7, q8⟩
      · as_aux_lemma =>
        have dm : decide ((2 : Int) ≤ i) = false := decide_eq_false (by omega)
        have hm0 : min (i : Int) 1 = 0 := by omega
        go_wp2_with fail
        refine (L_str.here_any _ _ 2 _ _ _ (by omega) (row_cell K1.out.1 0) (row_cell K1.out.2 0) (row_cell K1.out.2 1)).mono ?_
        rintro e w4 ⟨rfl, m1, rfl⟩
        go_wp2_with fail
        refine (L_sls.here_any _ _ 2 _ _ _ _ _ (by omega) (row_cell (K2.out.drewN m1).1 0) (row_cell (K2.out.drewN m1).2 0) (row_cell (K2.out.drewN m1).2 1)).mono ?_
        rintro e w4 ⟨rfl, m2, rfl⟩
        go_wp2_with fail
        obtain ⟨w3, hw3⟩ : ∃ w3, wr.drewN (m1 + m2) = w3 := ⟨_, rfl⟩
        have F3 : Hid (Far (fun _ => False) wr w3) := by rw [← hw3]; exact (Far.refl _ wr).drewN _
        rw [hw3]
        clear hw3
        have K1 := hide (K1.out.far F3.out (fun h => h) (fun h => h))
        refine (L_str.way2n _ _ _ _ (row_cell K1.out.1 0) (row_cell K1.out.2 2) (row_cell K1.out.2 3)).mono ?_
        rintro e w4 ⟨rfl, B4⟩
        have K1 := hide (K1.out.far (far_of_below B4) (fun h => h) (fun h => h))
        have F4 := hide (F3.out.trans (far_of_below B4))
        clear B4
        have K2 := hide (K2.out.far F4.out (fun h => h) (fun h => h))
        have B4 := hide (Far.below KB.out F4.out KB.out.size (fun k h => h.elim))
        have cs := HC.out w4 B4.out
        have z4 := F4.out.size
        go_wp2_with fail
        refine (L_str.send2s _ _ _ _ _ _ _ s ⟨w4.heap.size, 0, none⟩ 1 _ (by omega) (by omega) (K1.out.alloc _) (cell_new w4 #[.string s] 9 (0, 0) 0)).mono ?_
        rintro e w5 ⟨rfl, L1, F5⟩
        have F5 := hide (((Far.refl _ w4).alloc _).trans F5)
        have B5 := hide (Far.below B4.out F5.out B4.out.size (by rintro k (rfl | rfl) <;> omega))
        have z5 := F5.out.size
        have cs := HC.out w5 B5.out
        have L2 := hide (K2.out.far F5.out (by rintro (h | h) <;> omega) (by rintro (h | h) <;> omega))
        have L1 := hide L1
        clear K1 K2
        go_wp2_with fail
        have hgc := hide (show ((w5.alloc (.cells #[.string s] 9)).alloc (.cells #[.slice (some ⟨w5.heap.size, 0, none⟩) 1 1] 63)).cell? ⟨w5.heap.size, 0, none⟩ = some (.string s) from (World.cell?_alloc_lt _ _ _ (by simp)).trans (cell_new w5 #[.string s] 9 (0, 0) 0))
        have hgv := hide (cell_new' (w5.alloc (.cells #[.string s] 9)) #[.slice (some ⟨w5.heap.size, 0, none⟩) 1 1] 63 (0, 0) 0 (w5.heap.size + 1) (by simp))
        refine (L_sls.send2s _ _ _ _ _ _ _ _ _ _ _ (some ⟨w5.heap.size, 0, none⟩) 1 1 ⟨w5.heap.size + 1, 0, none⟩ 1 _ (by omega) (by omega) ((L2.out.alloc _).alloc _) hgv.out).mono ?_
        rintro e w6 ⟨rfl, L3, F6⟩
        have hgc := hide (cell_far F6 hgc.out (by rintro (h | h) <;> (have h : w5.heap.size = _ := h; omega)))
        have F6 := hide ((((Far.refl _ w5).alloc _).alloc _).trans F6)
        have B6 := hide (Far.below B5.out F6.out B5.out.size (by rintro k (rfl | rfl) <;> omega))
        have z6 := F6.out.size
        have cs := HC.out w6 B6.out
        have L1 := hide (L1.out.far F6.out (by rintro (h | h) <;> omega) (by rintro (h | h) <;> omega))
        have L2 := hide L3
        clear L3
        have ca : w6.cell? ⟨Ba, 0, none⟩ = some (.slice (some ⟨Ra, 0, none⟩) 2 2) := row_cell L1.out.1 0
        have hz : (0 : Int) ≤ i := by omega
        have hz' : (i : Int) < len := by omega
        have KS := KSt.mk cs ca (Far.refl _ _)
        go_wp2_with fail
        go_region_held3 (fun w' => w'.cell? (ad.add i) = some (.string s) ∧ w'.cell? ⟨Ba, 0, none⟩ = some (.slice (some ⟨Ra, 0, none⟩) 2 2) ∧ KSt w6 (ad.add i) s ⟨Ba, 0, none⟩ (.slice (some ⟨Ra, 0, none⟩) 2 2) w')
          (first | exact ⟨by assumption, by assumption, by assumption⟩ | exact KSt.all (KSt.drew (by assumption)) | exact KSt.all (KSt.alloc (by assumption) _) | exact KSt.all (KSt.drew (KSt.alloc (by assumption) _)))
          (first | (go_at_call 31; refine (kst_send (w6 := w6) (p := ad.add i) (s := s) Ba Ra 2 _ _ _ (by omega) (by omega) (by first | assumption | exact ⟨by assumption, by assumption, by assumption⟩)).mono ?_; rintro e w' ⟨rfl, k1, k2, k3⟩))
        rename_i KE
        have KF := hide KE.2.2.far
        clear KE
        have z7 := KF.out.size
        have FF := hide ((((F4.out.wide (S' := fun k => k = Ba ∨ k = Ra ∨ k = Bb ∨ k = Rb) (fun k h => h.elim)).trans (F5.out.wide (by rintro k (h | h) <;> simp [h]))).trans (F6.out.wide (by rintro k (h | h) <;> simp [h]))).trans (KF.out.wide (fun k h => h.elim)))
        go_wp2_with fail
        go_roundg (gk - 1)
        case measure => omega
        case rel =>
          refine ⟨i + 1, by omega, by go_num, by omega, _, _, _, _, _, s, _, 1, 1, true, L1.out.far KF.out (fun h => h) (fun h => h), L2.out.far KF.out (fun h => h) (fun h => h), (I2.out.far FF.out (by rintro g (h | h | h | h) <;> omega)).succ, .inr ⟨w5.heap.size, by omega, hgi.out, rfl, rfl, rfl, rfl, by omega, cell_far KF.out hgc.out (fun h => h)⟩, Far.below B6.out KF.out B6.out.size (fun k h => h.elim)⟩
      · as_aux_lemma =>
        have dm : decide ((2 : Int) ≤ i) = false := decide_eq_false (by omega)
        have hm0 : min (i : Int) 1 = 1 := by omega
        go_wp2_with fail
        refine (L_str.here_any _ _ 2 _ _ _ (by omega) (row_cell K1.out.1 0) (row_cell K1.out.2 0) (row_cell K1.out.2 1)).mono ?_
        rintro e w4 ⟨rfl, m1, rfl⟩
        go_wp2_with fail
        refine (L_sls.here_any _ _ 2 _ _ _ _ _ (by omega) (row_cell (K2.out.drewN m1).1 0) (row_cell (K2.out.drewN m1).2 0) (row_cell (K2.out.drewN m1).2 1)).mono ?_
        rintro e w4 ⟨rfl, m2, rfl⟩
        go_wp2_with fail
        obtain ⟨w3, hw3⟩ : ∃ w3, wr.drewN (m1 + m2) = w3 := ⟨_, rfl⟩
        have F3 : Hid (Far (fun _ => False) wr w3) := by rw [← hw3]; exact (Far.refl _ wr).drewN _
        rw [hw3]
        clear hw3
        have K1 := hide (K1.out.far F3.out (fun h => h) (fun h => h))
        refine (L_str.way2s _ _ _ _ (row_cell K1.out.1 0) (row_cell K1.out.2 2) (row_cell K1.out.2 3)).mono ?_
        rintro e w4 ⟨gw, rfl, _, _, B4⟩
        have K1 := hide (K1.out.far (far_of_below B4) (fun h => h) (fun h => h))
        have F4 := hide (F3.out.trans (far_of_below B4))
        clear B4
        have K2 := hide (K2.out.far F4.out (fun h => h) (fun h => h))
        have B4 := hide (Far.below KB.out F4.out KB.out.size (fun k h => h.elim))
        have cs := HC.out w4 B4.out
        have z4 := F4.out.size
        go_wp2_with fail
        refine (L_str.send2s _ _ _ _ _ _ _ s ⟨w4.heap.size, 0, none⟩ 1 _ (by omega) (by omega) (K1.out.alloc _) (cell_new w4 #[.string s] 9 (0, 0) 0)).mono ?_
        rintro e w5 ⟨rfl, L1, F5⟩
        have F5 := hide (((Far.refl _ w4).alloc _).trans F5)
        have B5 := hide (Far.below B4.out F5.out B4.out.size (by rintro k (rfl | rfl) <;> omega))
        have z5 := F5.out.size
        have cs := HC.out w5 B5.out
        have L2 := hide (K2.out.far F5.out (by rintro (h | h) <;> omega) (by rintro (h | h) <;> omega))
        have L1 := hide L1
        clear K1 K2
        go_wp2_with fail
        have hgc := hide (show ((w5.alloc (.cells #[.string s] 9)).alloc (.cells #[.slice (some ⟨w5.heap.size, 0, none⟩) 1 1] 63)).cell? ⟨w5.heap.size, 0, none⟩ = some (.string s) from (World.cell?_alloc_lt _ _ _ (by simp)).trans (cell_new w5 #[.string s] 9 (0, 0) 0))
        have hgv := hide (cell_new' (w5.alloc (.cells #[.string s] 9)) #[.slice (some ⟨w5.heap.size, 0, none⟩) 1 1] 63 (0, 0) 0 (w5.heap.size + 1) (by simp))
        refine (L_sls.send2s _ _ _ _ _ _ _ _ _ _ _ (some ⟨w5.heap.size, 0, none⟩) 1 1 ⟨w5.heap.size + 1, 0, none⟩ 1 _ (by omega) (by omega) ((L2.out.alloc _).alloc _) hgv.out).mono ?_
        rintro e w6 ⟨rfl, L3, F6⟩
        have hgc := hide (cell_far F6 hgc.out (by rintro (h | h) <;> (have h : w5.heap.size = _ := h; omega)))
        have F6 := hide ((((Far.refl _ w5).alloc _).alloc _).trans F6)
        have B6 := hide (Far.below B5.out F6.out B5.out.size (by rintro k (rfl | rfl) <;> omega))
        have z6 := F6.out.size
        have cs := HC.out w6 B6.out
        have L1 := hide (L1.out.far F6.out (by rintro (h | h) <;> omega) (by rintro (h | h) <;> omega))
        have L2 := hide L3
        clear L3
        have ca : w6.cell? ⟨Ba, 0, none⟩ = some (.slice (some ⟨Ra, 0, none⟩) 2 2) := row_cell L1.out.1 0
        have hz : (0 : Int) ≤ i := by omega
        have hz' : (i : Int) < len := by omega
        have KS := KSt.mk cs ca (Far.refl _ _)
        go_wp2_with fail
        go_region_held3 (fun w' => w'.cell? (ad.add i) = some (.string s) ∧ w'.cell? ⟨Ba, 0, none⟩ = some (.slice (some ⟨Ra, 0, none⟩) 2 2) ∧ KSt w6 (ad.add i) s ⟨Ba, 0, none⟩ (.slice (some ⟨Ra, 0, none⟩) 2 2) w')
          (first | exact ⟨by assumption, by assumption, by assumption⟩ | exact KSt.all (KSt.drew (by assumption)) | exact KSt.all (KSt.alloc (by assumption) _) | exact KSt.all (KSt.drew (KSt.alloc (by assumption) _)))
          (first | (go_at_call 31; refine (kst_send (w6 := w6) (p := ad.add i) (s := s) Ba Ra 2 _ _ _ (by omega) (by omega) (by first | assumption | exact ⟨by assumption, by assumption, by assumption⟩)).mono ?_; rintro e w' ⟨rfl, k1, k2, k3⟩))
        rename_i KE
        have KF := hide KE.2.2.far
        clear KE
        have z7 := KF.out.size
        have FF := hide ((((F4.out.wide (S' := fun k => k = Ba ∨ k = Ra ∨ k = Bb ∨ k = Rb) (fun k h => h.elim)).trans (F5.out.wide (by rintro k (h | h) <;> simp [h]))).trans (F6.out.wide (by rintro k (h | h) <;> simp [h]))).trans (KF.out.wide (fun k h => h.elim)))
        go_wp2_with fail
        go_roundg (gk - 1)
        case measure => omega
        case rel =>
          refine ⟨i + 1, by omega, by go_num, by omega, _, _, _, _, _, s, _, 1, 1, true, L1.out.far KF.out (fun h => h) (fun h => h), L2.out.far KF.out (fun h => h) (fun h => h), (I2.out.far FF.out (by rintro g (h | h | h | h) <;> omega)).succ, .inr ⟨w5.heap.size, by omega, hgi.out, rfl, rfl, rfl, rfl, by omega, cell_far KF.out hgc.out (fun h => h)⟩, Far.below B6.out KF.out B6.out.size (fun k h => h.elim)⟩
      · as_aux_lemma =>
        omega
      · as_aux_lemma =>
        have dm : decide ((2 : Int) ≤ i) = true := decide_eq_true (by omega)
        obtain ⟨cx, cxb⟩ := HA.out _ _ h2
        have cx := (KB.out.cell cxb).trans cx
        have hi0 : (0 : Int) ≤ (i : Int) - 2 := by omega
        have hi1 : (i : Int) - 2 < len := by omega
        clear h2 cxb
        have hm0 : min (i : Int) 1 = 1 := by omega
        go_wp2_with fail
        refine (L_str.here_any _ _ 2 _ _ _ (by omega) (row_cell K1.out.1 0) (row_cell K1.out.2 0) (row_cell K1.out.2 1)).mono ?_
        rintro e w4 ⟨rfl, m1, rfl⟩
        go_wp2_with fail
        refine (L_sls.here_any _ _ 2 _ _ _ _ _ (by omega) (row_cell (K2.out.drewN m1).1 0) (row_cell (K2.out.drewN m1).2 0) (row_cell (K2.out.drewN m1).2 1)).mono ?_
        rintro e w4 ⟨rfl, m2, rfl⟩
        go_wp2_with fail
        obtain ⟨w3, hw3⟩ : ∃ w3, wr.drewN (m1 + m2) = w3 := ⟨_, rfl⟩
        have F3 : Hid (Far (fun _ => False) wr w3) := by rw [← hw3]; exact (Far.refl _ wr).drewN _
        rw [hw3]
        clear hw3
        have K1 := hide (K1.out.far F3.out (fun h => h) (fun h => h))
        refine (L_str.way2s _ _ _ _ (row_cell K1.out.1 0) (row_cell K1.out.2 2) (row_cell K1.out.2 3)).mono ?_
        rintro e w4 ⟨gw, rfl, _, _, B4⟩
        have K1 := hide (K1.out.far (far_of_below B4) (fun h => h) (fun h => h))
        have F4 := hide (F3.out.trans (far_of_below B4))
        clear B4
        have K2 := hide (K2.out.far F4.out (fun h => h) (fun h => h))
        have B4 := hide (Far.below KB.out F4.out KB.out.size (fun k h => h.elim))
        have cs := HC.out w4 B4.out
        have z4 := F4.out.size
        go_wp2_with fail
        refine (L_str.send2s _ _ _ _ _ _ _ s ⟨w4.heap.size, 0, none⟩ 1 _ (by omega) (by omega) (K1.out.alloc _) (cell_new w4 #[.string s] 9 (0, 0) 0)).mono ?_
        rintro e w5 ⟨rfl, L1, F5⟩
        have F5 := hide (((Far.refl _ w4).alloc _).trans F5)
        have B5 := hide (Far.below B4.out F5.out B4.out.size (by rintro k (rfl | rfl) <;> omega))
        have z5 := F5.out.size
        have cs := HC.out w5 B5.out
        have L2 := hide (K2.out.far F5.out (by rintro (h | h) <;> omega) (by rintro (h | h) <;> omega))
        have L1 := hide L1
        clear K1 K2
        go_wp2_with fail
        have hgc := hide (show ((w5.alloc (.cells #[.string s] 9)).alloc (.cells #[.slice (some ⟨w5.heap.size, 0, none⟩) 1 1] 63)).cell? ⟨w5.heap.size, 0, none⟩ = some (.string s) from (World.cell?_alloc_lt _ _ _ (by simp)).trans (cell_new w5 #[.string s] 9 (0, 0) 0))
        have hgv := hide (cell_new' (w5.alloc (.cells #[.string s] 9)) #[.slice (some ⟨w5.heap.size, 0, none⟩) 1 1] 63 (0, 0) 0 (w5.heap.size + 1) (by simp))
        refine (L_sls.send2s _ _ _ _ _ _ _ _ _ _ _ (some ⟨w5.heap.size, 0, none⟩) 1 1 ⟨w5.heap.size + 1, 0, none⟩ 1 _ (by omega) (by omega) ((L2.out.alloc _).alloc _) hgv.out).mono ?_
        rintro e w6 ⟨rfl, L3, F6⟩
        have hgc := hide (cell_far F6 hgc.out (by rintro (h | h) <;> (have h : w5.heap.size = _ := h; omega)))
        have F6 := hide ((((Far.refl _ w5).alloc _).alloc _).trans F6)
        have B6 := hide (Far.below B5.out F6.out B5.out.size (by rintro k (rfl | rfl) <;> omega))
        have z6 := F6.out.size
        have cs := HC.out w6 B6.out
        have L1 := hide (L1.out.far F6.out (by rintro (h | h) <;> omega) (by rintro (h | h) <;> omega))
        have L2 := hide L3
        clear L3
        have ca : w6.cell? ⟨Ba, 0, none⟩ = some (.slice (some ⟨Ra, 0, none⟩) 2 2) := row_cell L1.out.1 0
        have hz : (0 : Int) ≤ i := by omega
        have hz' : (i : Int) < len := by omega
        have KS := KSt.mk cs ca (Far.refl _ _)
        go_wp2_with fail
        go_region_held3 (fun w' => w'.cell? (ad.add i) = some (.string s) ∧ w'.cell? ⟨Ba, 0, none⟩ = some (.slice (some ⟨Ra, 0, none⟩) 2 2) ∧ KSt w6 (ad.add i) s ⟨Ba, 0, none⟩ (.slice (some ⟨Ra, 0, none⟩) 2 2) w')
          (first | exact ⟨by assumption, by assumption, by assumption⟩ | exact KSt.all (KSt.drew (by assumption)) | exact KSt.all (KSt.alloc (by assumption) _) | exact KSt.all (KSt.drew (KSt.alloc (by assumption) _)))
          (first | (go_at_call 31; refine (kst_send (w6 := w6) (p := ad.add i) (s := s) Ba Ra 2 _ _ _ (by omega) (by omega) (by first | assumption | exact ⟨by assumption, by assumption, by assumption⟩)).mono ?_; rintro e w' ⟨rfl, k1, k2, k3⟩))
        rename_i KE
        have KF := hide KE.2.2.far
        clear KE
        have z7 := KF.out.size
        have FF := hide ((((F4.out.wide (S' := fun k => k = Ba ∨ k = Ra ∨ k = Bb ∨ k = Rb) (fun k h => h.elim)).trans (F5.out.wide (by rintro k (h | h) <;> simp [h]))).trans (F6.out.wide (by rintro k (h | h) <;> simp [h]))).trans (KF.out.wide (fun k h => h.elim)))
        go_wp2_with fail
        go_roundg (gk - 1)
        case measure => omega
        case rel =>
          refine ⟨i + 1, by omega, by go_num, by omega, _, _, _, _, _, s, _, 1, 1, true, L1.out.far KF.out (fun h => h) (fun h => h), L2.out.far KF.out (fun h => h) (fun h => h), (I2.out.far FF.out (by rintro g (h | h | h | h) <;> omega)).succ, .inr ⟨w5.heap.size, by omega, hgi.out, rfl, rfl, rfl, rfl, by omega, cell_far KF.out hgc.out (fun h => h)⟩, Far.below B6.out KF.out B6.out.size (fun k h => h.elim)⟩
    · go_wp2_with fail
      refine (L_str.ticks_any _ _ 2 _ _ (by omega) (row_cell K1.out.1 0) (row_cell K1.out.1 1)).mono ?_
      rintro e w4 ⟨rfl, rfl⟩
      obtain rfl : i = len := by omega
      go_wp2_with fail
      refine (lives_any _).mono ?_
      rintro e w' ⟨rfl, hb⟩
      have HB := hide (KB.out.trans (hb.mono KB.out.size))
      clear hb
      go_wp2_with fail
      go_ret
      exact ⟨rfl, HB.out⟩
theorem kinds_long (A0 : Option Addr) (len cap : Nat) (b : Bool) (w : World) (hl : 100 < len) (hm : len ≤ maxLen) :
    Calls Try.prog 6 #[.slice A0 len cap, .bool b] w fun e w' => e = .returned (.bool true) ∧ Below w.heap.size w w' := by
  unfold maxLen at hm
  have hl' : (100 : Int) < len := by omega
  go_enter Try.func6, Try.ntmps6
  go_wp2_with fail
  refine (lives_any _).mono ?_
  rintro e w' ⟨rfl, hb⟩
  have HB := hide hb
  clear hb
  go_wp2_with fail
  go_ret
  exact ⟨rfl, HB.out⟩
end Go.Proofs.Ytbniijmabebhoaa
