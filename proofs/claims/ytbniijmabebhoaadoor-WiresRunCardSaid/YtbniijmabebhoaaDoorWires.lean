/- The contracts of package wires, at numbers: a ring's wires as what was given in each tick that has ended, and in this one. -/
import Derived.Test.YtbniijmabebhoaaDoorMaps
import Derived.Test.YtbniijmabebhoaaDoorRings
import Derived.Deep.LoopGhost
namespace Go.Proofs.YtbniijmabebhoaaDoor
open Go.RowKit
set_option linter.unusedVariables false
namespace Wr
open Mp
def enc : Option Int → List Value
  | none => [.int .i64 0, .bool false]
  | some x => [.int .i64 x, .bool true]
def hop (k : Nat) : Nat := k % 2 + 1
/-- What a tick that ended i ticks before the last one saw given. -/
def past (H : List (Int → Option Int)) (i : Nat) (k : Int) : Option Int := ((H[i]?).getD fun _ => none) k
def way (h : Nat) (f : Nat → Option Int) : Array Value := if h = 1 then (enc (f 0)).toArray else (enc (f 1) ++ enc (f 0)).toArray
structure Ad where
  B : Nat
  M1 : Nat
  M2 : Nat
  ln : Nat → Nat
  ro : Nat → Nat
/-- The blocks that turn. -/
def Own (A : Ad) (n : Nat) (k : Nat) : Prop := k = A.B ∨ k = A.M2 ∨ ∃ j, j < 4 * n ∧ (k = A.ln j ∨ k = A.ro j)
abbrev ptr (b : Nat) : Value := .pointer (some ⟨b, 0, none⟩)
structure Wi (w : World) (A : Ad) (n : Nat) (H : List (Int → Option Int)) (g : List (Int × Int)) : Prop where
  n4 : 4 ≤ n
  n16 : n ≤ 16
  st : w.heap[A.B]? = some (.cells #[.map (some A.M1), .int .i64 n, .map (some A.M2), .int .i64 (H.length : Nat)] 53 (0, 0))
  m1 : Lm ptr w A.M1 A.ln (4 * n)
  m2 : Am (Value.int .i64) w A.M2 g
  ln : ∀ k, k < 4 * n → Ln w 102 105 (A.ln k) (A.ro k) (hop k) (way (hop k) fun i => past H i k) (H.length : Nat)
  inj : ∀ j k, j < 4 * n → k < 4 * n → j ≠ k → A.ln j ≠ A.ln k ∧ A.ro j ≠ A.ro k
  ne : A.M1 ≠ A.M2
  keys : ∀ k x, get g k = some x → 0 ≤ k ∧ k < 4 * n
section
variable {w w' : World} {A : Ad} {n : Nat} {H : List (Int → Option Int)} {g : List (Int × Int)}
theorem Wi.far {S : Nat → Prop} (h : Wi w A n H g) (hf : Far S w w') (h1 : ¬ S A.M1) (h2 : ∀ k, Own A n k → ¬ S k) : Wi w' A n H g :=
  ⟨h.n4, h.n16, (hf.block _ (lt_of_blk h.st) (h2 _ (.inl rfl))).trans h.st, h.m1.far hf h1, h.m2.far hf (h2 _ (.inr (.inl rfl))),
    fun k hk => (h.ln k hk).far hf (h2 _ (.inr (.inr ⟨k, hk, .inl rfl⟩))) (h2 _ (.inr (.inr ⟨k, hk, .inr rfl⟩))), h.inj, h.ne, h.keys⟩
theorem Wi.look (h : Wi w A n H g) (k : Int) (b : Bool) : (Instr.lookup 48 (.map (some A.M1)) (.int .i64 k) b).run Tryd.prog w =
    .ok (if b then .tuple #[if 0 ≤ k ∧ k < 4 * n then ptr (A.ln k.toNat) else .pointer none, .bool (decide (0 ≤ k ∧ k < 4 * n))] else if 0 ≤ k ∧ k < 4 * n then ptr (A.ln k.toNat) else .pointer none) w := by
  rw [h.m1.am.lookup (P := Tryd.prog) 48 3 83 Tryd.underlying48 Tryd.underlying3 (.pointer none) (by kernel_rfl) k b, get_rows]
  by_cases hk : 0 ≤ k ∧ k < 4 * n
  · have hk' : 0 ≤ k ∧ k < ((4 * n : Nat) : Int) := by omega
    rw [if_pos hk', if_pos hk, decide_eq_true hk]; rfl
  · have hk' : ¬ (0 ≤ k ∧ k < ((4 * n : Nat) : Int)) := by omega
    rw [if_neg hk', if_neg hk, decide_eq_false hk]; rfl
theorem Wi.given (h : Wi w A n H g) (k : Int) : (Instr.lookup 51 (.map (some A.M2)) (.int .i64 k) true).run Tryd.prog w = .ok (.tuple #[.int .i64 ((get g k).getD 0), .bool (get g k).isSome]) w := by
  rw [h.m2.lookup (P := Tryd.prog) 51 3 3 Tryd.underlying51 Tryd.underlying3 (.int .i64 0) (by kernel_rfl) k true]
  cases get g k <;> rfl
theorem there_any (h : Wi w A n H g) : Calls Tryd.prog 49 #[ptr A.B] w fun e w' => e = .returned (.bool true) ∧ w = w' := by
  have c1 := row_cell h.st 1
  have hn : decide (0 < n) = true := decide_eq_true (by have := h.n4; omega)
  have hn' : decide ((0 : Int) < n) = true := decide_eq_true (by have := h.n4; omega)
  obtain ⟨t, ht⟩ : ∃ t : Int, (H.length : Nat) = t := ⟨_, rfl⟩
  clear h
  go_enter Tryd.func49, Tryd.ntmps49
  go_wp2
  go_ret
  exact ⟨rfl, rfl⟩
def inB (n : Nat) (k : Int) : Bool := decide (0 ≤ k ∧ k < 4 * n)
set_option maxRecDepth 100000 in
theorem may_any (h : Wi w A n H g) (k : Int) : Calls Tryd.prog 48 #[ptr A.B, .int .i64 k] w fun e w' => e = .returned (.int .i64 (if inB n k then 0 else 1)) ∧ w = w' := by
  have c0 := row_cell h.st 0
  have T := hide (there_any h)
  have lk := h.look k true
  simp only [if_true] at lk
  have hi : inB n k = decide (0 ≤ k ∧ k < 4 * n) := rfl
  rw [← hi] at lk
  obtain ⟨v, hv⟩ : ∃ v, (if 0 ≤ k ∧ k < 4 * (n : Int) then ptr (A.ln k.toNat) else .pointer none) = v := ⟨_, rfl⟩
  rw [hv] at lk
  obtain ⟨b, hb⟩ : ∃ b, inB n k = b := ⟨_, rfl⟩
  rw [hb] at lk ⊢
  clear h hi hv hb
  cases b <;>
  · go_enter Tryd.func48, Tryd.ntmps48
    go_wp2_with fail
    refine T.out.mono ?_
    rintro e w' ⟨rfl, rfl⟩
    go_wp2_with fail
    go_ret
    exact ⟨rfl, rfl⟩
theorem map_ne {l : List (Int × Int)} {M b : Nat} {cs : Array Value} {t : TypeId} {fz : Nat × Nat} (h : Am (Value.int .i64) w M l) (hb : w.heap[b]? = some (.cells cs t fz)) : b ≠ M := by
  rintro rfl
  obtain ⟨es, clock, h1, _⟩ := h
  rw [h1] at hb
  cases hb
theorem Wi.m2_ne (h : Wi w A n H g) (k : Nat) (hk : k < 4 * n) : A.ln k ≠ A.M2 ∧ A.ro k ≠ A.M2 := ⟨map_ne h.m2 (h.ln k hk).1, map_ne h.m2 (h.ln k hk).2⟩
/-- What is given has turned. -/
theorem Wi.turn2 {g' : List (Int × Int)} (h : Wi w A n H g) (hf : Far (fun k => k = A.M2) w w') (am : Am (Value.int .i64) w' A.M2 g') (hk : ∀ k x, get g' k = some x → 0 ≤ k ∧ k < 4 * n) : Wi w' A n H g' :=
  ⟨h.n4, h.n16, (hf.block _ (lt_of_blk h.st) (map_ne h.m2 h.st)).trans h.st, h.m1.far hf h.ne, am,
    fun k hk => (h.ln k hk).far hf (h.m2_ne k hk).1 (h.m2_ne k hk).2, h.inj, h.ne, hk⟩
theorem inB_iff (n : Nat) (k : Int) : inB n k = true ↔ 0 ≤ k ∧ k < 4 * n := by unfold inB; simp
set_option maxRecDepth 100000 in
theorem give_no (h : Wi w A n H g) (k x : Int) (hk : inB n k = false) : Calls Tryd.prog 18 #[ptr A.B, .int .i64 k, .int .i64 x] w fun e w' => e = .returned (.int .i64 1) ∧ w = w' := by
  have T := hide (may_any h k)
  rw [hk] at T
  clear h hk
  go_enter Tryd.func18, Tryd.ntmps18
  go_wp2_with fail
  refine T.out.mono ?_
  rintro e w' ⟨rfl, rfl⟩
  go_wp2_with fail
  go_ret
  exact ⟨rfl, rfl⟩
set_option maxRecDepth 100000 in
theorem give_yes (h : Wi w A n H g) (k x : Int) (hk : inB n k = true) : Calls Tryd.prog 18 #[ptr A.B, .int .i64 k, .int .i64 x] w fun e w' => e = .returned (.int .i64 0) ∧ Wi w' A n H (upd k x g) ∧ Far (fun k => k = A.M2) w w' := by
  have T := hide (may_any h k)
  rw [hk] at T
  have c0 := row_cell h.st 2
  obtain ⟨w1, hrun, am, hf⟩ := h.m2.update (P := Tryd.prog) 51 3 3 Tryd.underlying51 Tryd.underlying3 k x
  have HR := hide (show Wi w1 A n H (upd k x g) ∧ Far (fun k => k = A.M2) w w1 from ⟨h.turn2 hf am (fun j y hj => by
    rw [get_upd] at hj
    split at hj
    · rename_i e; subst e; exact (inB_iff n j).1 hk
    · exact h.keys j y hj), hf⟩)
  clear h hk am hf
  go_enter Tryd.func18, Tryd.ntmps18
  go_wp2_with fail
  refine T.out.mono ?_
  rintro e w' ⟨rfl, rfl⟩
  go_wp2_with fail
  go_ret
  exact ⟨rfl, HR.out⟩
set_option maxRecDepth 100000 in
theorem take_no (h : Wi w A n H g) (k : Int) (hk : inB n k = false) : Calls Tryd.prog 20 #[ptr A.B, .int .i64 k] w fun e w' => e = .returned (.int .i64 1) ∧ w = w' := by
  have T := hide (may_any h k)
  rw [hk] at T
  clear h hk
  go_enter Tryd.func20, Tryd.ntmps20
  go_wp2_with fail
  refine T.out.mono ?_
  rintro e w' ⟨rfl, rfl⟩
  go_wp2_with fail
  go_ret
  exact ⟨rfl, rfl⟩
theorem Wi.nodup (h : Wi w A n H g) : (g.map (·.1)).Nodup := by
  obtain ⟨_, _, _, _, h⟩ := h.m2
  exact h
set_option maxRecDepth 100000 in
theorem take_yes (h : Wi w A n H g) (k : Int) (hk : inB n k = true) : Calls Tryd.prog 20 #[ptr A.B, .int .i64 k] w fun e w' => e = .returned (.int .i64 0) ∧ Wi w' A n H (del k g) ∧ Far (fun k => k = A.M2) w w' := by
  have T := hide (may_any h k)
  rw [hk] at T
  have c0 := row_cell h.st 2
  obtain ⟨w1, hrun, am, hf⟩ := h.m2.drop_ (P := Tryd.prog) 51 3 3 Tryd.underlying51 Tryd.underlying3 k
  have HR := hide (show Wi w1 A n H (del k g) ∧ Far (fun k => k = A.M2) w w1 from ⟨h.turn2 hf am (fun j y hj => by
    rw [get_del g k h.nodup] at hj
    split at hj
    · cases hj
    · exact h.keys j y hj), hf⟩)
  clear h hk am hf
  go_enter Tryd.func20, Tryd.ntmps20
  go_wp2_with fail
  refine T.out.mono ?_
  rintro e w' ⟨rfl, rfl⟩
  go_wp2_with fail
  go_ret
  exact ⟨rfl, HR.out⟩
set_option maxRecDepth 100000 in
theorem given_any (h : Wi w A n H g) (k : Int) : Calls Tryd.prog 25 #[ptr A.B, .int .i64 k] w fun e w' => e = .returned (.tuple #[.int .i64 ((get g k).getD 0), .bool (get g k).isSome]) ∧ w = w' := by
  have T := hide (may_any h k)
  have c0 := row_cell h.st 2
  have lk := h.given k
  have hko := h.keys k
  obtain ⟨b, hb⟩ : ∃ b, inB n k = b := ⟨_, rfl⟩
  rw [hb] at T
  cases b with
  | false =>
    have hg : get g k = none := by
      cases hg : get g k with
      | none => rfl
      | some x => have := (inB_iff n k).2 (hko x hg); rw [hb] at this; cases this
    rw [hg]
    clear h hb hko lk hg
    go_enter Tryd.func25, Tryd.ntmps25
    go_wp2_with fail
    refine T.out.mono ?_
    rintro e w' ⟨rfl, rfl⟩
    go_wp2_with fail
    go_ret2
    exact ⟨rfl, rfl⟩
  | true =>
    obtain ⟨v, hv⟩ : ∃ v, (get g k).getD 0 = v := ⟨_, rfl⟩
    obtain ⟨q, hq⟩ : ∃ q, (get g k).isSome = q := ⟨_, rfl⟩
    rw [hv, hq] at lk ⊢
    clear h hb hko hv hq
    go_enter Tryd.func25, Tryd.ntmps25
    go_wp2_with fail
    refine T.out.mono ?_
    rintro e w' ⟨rfl, rfl⟩
    go_wp2_with fail
    go_ret2
    exact ⟨rfl, rfl⟩
theorem ticks_any (h : Wi w A n H g) : Calls Tryd.prog 27 #[ptr A.B] w fun e w' => e = .returned (.int .i64 (H.length : Nat)) ∧ w = w' := by
  have T := hide (there_any h)
  have c3 := row_cell h.st 3
  obtain ⟨t, ht⟩ : ∃ t : Int, ((H.length : Nat) : Int) = t := ⟨_, rfl⟩
  rw [ht] at c3 ⊢
  clear h ht
  go_enter Tryd.func27, Tryd.ntmps27
  go_wp2_with fail
  refine T.out.mono ?_
  rintro e w' ⟨rfl, rfl⟩
  go_wp2_with fail
  go_ret
  exact ⟨rfl, rfl⟩
/-- What is here, at a node. -/
def here (n : Nat) (H : List (Int → Option Int)) (d a h : Int) : Option Int := if inB n (Rg.link n d (Rg.src n d a h) h) then past H (hop (Rg.link n d (Rg.src n d a h) h).toNat - 1) (Rg.link n d (Rg.src n d a h) h) else none
theorem way_at (h : Nat) (f : Nat → Option Int) (hh : h = 1 ∨ h = 2) : (way h f)[0]? = some (.int .i64 ((f (h - 1)).getD 0)) ∧ (way h f)[1]? = some (.bool (f (h - 1)).isSome) := by
  rcases hh with rfl | rfl
  · unfold way
    simp only [if_true, Nat.sub_self]
    cases f 0 <;> exact ⟨rfl, rfl⟩
  · unfold way
    simp only [show ¬ (2 : Nat) = 1 from by decide, if_false, show 2 - 1 = 1 from rfl]
    cases f 1 <;> cases f 0 <;> exact ⟨rfl, rfl⟩
theorem hop_12 (k : Nat) : hop k = 1 ∨ hop k = 2 := by unfold hop; omega
theorem Wi.drewN (h : Wi w A n H g) (m : Nat) : Wi (w.drewN m) A n H g := ⟨h.n4, h.n16, h.st, h.m1, h.m2, h.ln, h.inj, h.ne, h.keys⟩
set_option maxRecDepth 100000 in
set_option maxHeartbeats 2000000 in
theorem here_any (h : Wi w A n H g) (sg : Signs w) (d a hp : Int) (hd : 0 ≤ d) : Calls Tryd.prog 23 #[ptr A.B, .int .u8 d, .int .i64 a, .int .i64 hp] w fun e w' => e = .returned (.tuple #[.int .i64 ((here n H d a hp).getD 0), .bool (here n H d a hp).isSome]) ∧ ∃ m, w' = w.drewN m := by
  have T := hide (there_any h)
  have c0 := row_cell h.st 0
  have c1 := row_cell h.st 1
  have S1 := hide (fun m => src_any n d a hp (w.drewN m) hd sg)
  have S2 := hide (fun m => link_any n d (Rg.src n d a hp) hp (w.drewN m) hd)
  obtain ⟨s, hs⟩ : ∃ s, Rg.src n d a hp = s := ⟨_, rfl⟩
  rw [hs] at S1 S2
  obtain ⟨k, hk⟩ : ∃ k, Rg.link n d s hp = k := ⟨_, rfl⟩
  rw [hk] at S2
  have e0 : here n H d a hp = if inB n k then past H (hop k.toNat - 1) k else none := by unfold here; rw [hs, hk]
  have lk := fun m => (h.drewN m).look k false
  simp only [Bool.false_eq_true, if_false] at lk
  cases hb : inB n k with
  | false =>
    have hn : ¬ (0 ≤ k ∧ k < 4 * n) := fun e => by have := (inB_iff n k).2 e; rw [hb] at this; cases this
    rw [e0, hb]
    simp only [if_neg hn] at lk
    have E0 := hide e0
    have HN := hide hn
    have HS := hide hs
    have HK := hide hk
    clear h e0 hn hs hk hb
    go_enter Tryd.func23, Tryd.ntmps23
    go_wp2_with fail
    refine T.out.mono ?_
    rintro e w' ⟨rfl, rfl⟩
    go_wp2_with fail
    go_quiet ((first | (go_at_call 35; exact Calls.quiet_of (S1.out _)) | (go_at_call 37; exact Calls.quiet_of_same (flipw (S2.out _))) | (go_at_call 51; exact Calls.quiet_of_same (flipw (L_int.here_nil _)))))
    go_wp2_with fail
    go_ret2
    exact ⟨rfl, _, rfl⟩
  | true =>
    have hn : 0 ≤ k ∧ k < 4 * n := (inB_iff n k).1 hb
    rw [e0, hb]
    simp only [if_pos hn, if_true] at lk ⊢
    obtain ⟨q, hq⟩ : ∃ q, k.toNat = q := ⟨_, rfl⟩
    have hkq : k = (q : Int) := by omega
    have hql : q < 4 * n := by omega
    rw [hq] at lk ⊢
    have L := h.ln q hql
    obtain ⟨y0, y1⟩ := way_at (hop q) (fun i => past H i q) (hop_12 q)
    have hh := hop_12 q
    rw [← hkq] at y0 y1
    obtain ⟨o, ho⟩ : ∃ o, past H (hop q - 1) k = o := ⟨_, rfl⟩
    rw [ho] at y0 y1 ⊢
    have HE := hide (fun m => L_int.here_any (A.ln q) (A.ro q) (hop q) (o.getD 0) o.isSome (w.drewN m) (by rcases hh with e | e <;> omega) (row_cell (L.drewN m).1 0) ((row_cell (L.drewN m).2 0).trans (by rw [← hkq]; exact y0)) ((row_cell (L.drewN m).2 1).trans (by rw [← hkq]; exact y1)))
    obtain ⟨x, hx⟩ : ∃ x, o.getD 0 = x := ⟨_, rfl⟩
    obtain ⟨b, hbb⟩ : ∃ b, o.isSome = b := ⟨_, rfl⟩
    rw [hx, hbb] at HE ⊢
    obtain ⟨P, hP⟩ : ∃ P, A.ln q = P := ⟨_, rfl⟩
    rw [hP] at lk HE
    clear h e0 hn hs hk hb hq hkq hql L y0 y1 ho hx hbb hP hh
    go_enter Tryd.func23, Tryd.ntmps23
    go_wp2_with fail
    refine T.out.mono ?_
    rintro e w' ⟨rfl, rfl⟩
    go_wp2_with fail
    go_quiet ((first | (go_at_call 35; exact Calls.quiet_of (S1.out _)) | (go_at_call 37; exact Calls.quiet_of_same (flipw (S2.out _))) | (go_at_call 51; exact Calls.quiet_of (HE.out _))))
    go_wp2_with fail
    go_ret2
    exact ⟨rfl, _, rfl⟩
def push (o : Option Int) (f : Nat → Option Int) : Nat → Option Int
  | 0 => o
  | i + 1 => f i
theorem enc_two (o : Option Int) : ∃ x b, enc o = [.int .i64 x, .bool b] := by cases o <;> exact ⟨_, _, rfl⟩
theorem way_one (f : Nat → Option Int) : way 1 f = (enc (f 0)).toArray := rfl
theorem way_two (f : Nat → Option Int) : way 2 f = (enc (f 1) ++ enc (f 0)).toArray := rfl
theorem send_none (B R h : Nat) (f : Nat → Option Int) (t : Int) (w : World) (hh : h = 1 ∨ h = 2) (ht : 0 ≤ t) (ht' : t ≤ 1000000) (L : Ln w 102 105 B R h (way h f) t) :
    Calls Tryd.prog 50 #[ptr B, .slice none 0 0] w fun e w' => e = .returned (.int .i64 0) ∧ Ln w' 102 105 B R h (way h (push none f)) (t + 1) ∧ Far (fun k => k = B ∨ k = R) w w' := by
  rcases hh with rfl | rfl
  · rw [way_one] at L ⊢
    obtain ⟨x, b, e⟩ := enc_two (f 0)
    rw [e] at L
    exact L_int.send1n B R x b t w ht ht' L
  · rw [way_two] at L ⊢
    obtain ⟨x, b, e⟩ := enc_two (f 1)
    obtain ⟨y, c, e'⟩ := enc_two (f 0)
    rw [e, e'] at L
    rw [show push none f 1 = f 0 from rfl, e']
    exact L_int.send2n B R x b y c t w ht ht' L
theorem send_some (B R h : Nat) (f : Nat → Option Int) (t v : Int) (ad : Addr) (scap : Nat) (w : World) (hh : h = 1 ∨ h = 2) (ht : 0 ≤ t) (ht' : t ≤ 1000000) (L : Ln w 102 105 B R h (way h f) t) (hc : w.cell? ad = some (.int .i64 v)) :
    Calls Tryd.prog 50 #[ptr B, .slice (some ad) 1 scap] w fun e w' => e = .returned (.int .i64 0) ∧ Ln w' 102 105 B R h (way h (push (some v) f)) (t + 1) ∧ Far (fun k => k = B ∨ k = R) w w' := by
  rcases hh with rfl | rfl
  · rw [way_one] at L ⊢
    obtain ⟨x, b, e⟩ := enc_two (f 0)
    rw [e] at L
    exact L_int.send1s B R x b t v ad scap w ht ht' L hc
  · rw [way_two] at L ⊢
    obtain ⟨x, b, e⟩ := enc_two (f 1)
    obtain ⟨y, c, e'⟩ := enc_two (f 0)
    rw [e, e'] at L
    rw [show push (some v) f 1 = f 0 from rfl, e']
    exact L_int.send2s B R x b y c t v ad scap w ht ht' L hc
theorem past_push (G : Int → Option Int) (H : List (Int → Option Int)) (k : Int) : (fun i => past (G :: H) i k) = push (G k) fun i => past H i k := by
  funext i
  cases i <;> rfl
theorem cell_far' {S : Nat → Prop} {w w' : World} (h : Far S w w') {p : Addr} {u : Value} (hc : w.cell? p = some u) (hn : ¬ S p.block) : w'.cell? p = some u :=
  (World.cell?_of_block (h.block p.block (lt_of_cell hc) hn)).trans hc
/-- End's loop under way: the links of S have been sent along. -/
structure Mid (w wr : World) (A : Ad) (n : Nat) (H : List (Int → Option Int)) (g : List (Int × Int)) (r : Nat) (S : List Nat) : Prop where
  it : It wr A.M1 r (4 * n) S
  hr : w.heap.size ≤ r
  st : wr.heap[A.B]? = some (.cells #[.map (some A.M1), .int .i64 n, .map (some A.M2), .int .i64 (H.length : Nat)] 53 (0, 0))
  m1 : Lm ptr wr A.M1 A.ln (4 * n)
  m2 : Am (Value.int .i64) wr A.M2 g
  ln : ∀ k, k < 4 * n → Ln wr 102 105 (A.ln k) (A.ro k) (hop k) (way (hop k) fun i => past (if k ∈ S then (fun j => get g j) :: H else H) i k) ((if k ∈ S then H.length + 1 else H.length : Nat) : Int)
  far : Far (fun b => ∃ j, j < 4 * n ∧ (b = A.ln j ∨ b = A.ro j)) w wr
theorem it_ne_cells {M r N b : Nat} {S : List Nat} {cs : Array Value} {t : TypeId} {fz : Nat × Nat} (h : It w M r N S) (hb : w.heap[b]? = some (.cells cs t fz)) : b ≠ r := by
  rintro rfl
  unfold It at h
  rw [h] at hb
  cases hb
theorem it_ne_map {M r N b : Nat} {S : List Nat} {l : List (Int × Int)} (h : It w M r N S) (hb : Am (Value.int .i64) w b l) : b ≠ r := by
  rintro rfl
  obtain ⟨es, clock, h1, _⟩ := hb
  unfold It at h
  rw [h] at h1
  cases h1
/-- One link has been sent along. -/
theorem Mid.step {w wr w2 w3 : World} {r k : Nat} {S : List Nat} (h : Mid w wr A n H g r S) (hi : Wi w A n H g) (hk : k < 4 * n) (hs : k ∉ S) (it2 : It w2 A.M1 r (4 * n) (S ++ [k])) (F2 : Far (fun j => j = r) wr w2)
    (L : Ln w3 102 105 (A.ln k) (A.ro k) (hop k) (way (hop k) (push (get g k) fun i => past H i k)) ((H.length : Nat) + 1)) (F3 : Far (fun b => b = A.ln k ∨ b = A.ro k) w2 w3) : Mid w w3 A n H g r (S ++ [k]) := by
  have cellsne : ∀ {b : Nat} {cs : Array Value} {t : TypeId}, wr.heap[b]? = some (.cells cs t (0, 0)) → b ≠ r := fun hb => it_ne_cells h.it hb
  have blk : ∀ {b : Nat} {o : Obj}, wr.heap[b]? = some o → b ≠ r → b ≠ A.ln k → b ≠ A.ro k → w3.heap[b]? = some o := fun hb h1 h2 h3 =>
    (F3.block _ (lt_of_blk ((F2.block _ (lt_of_blk hb) h1).trans hb)) (fun e => e.elim h2 h3)).trans ((F2.block _ (lt_of_blk hb) h1).trans hb)
  have Lk := h.ln k hk
  have tne : ∀ {b b' : Nat} {cs cs' : Array Value} {t t' : TypeId}, wr.heap[b]? = some (.cells cs t (0, 0)) → wr.heap[b']? = some (.cells cs' t' (0, 0)) → t ≠ t' → b ≠ b' := fun h1 h2 hne e => by
    subst e
    rw [h1] at h2
    cases h2
    exact hne rfl
  refine ⟨it2.far F3 (fun e => ?_), h.hr, blk h.st (cellsne h.st) (tne h.st Lk.1 (by decide)) (tne h.st Lk.2 (by decide)), ?_, ?_, fun j hj => ?_, ?_⟩
  · rcases e with e | e
    · exact cellsne Lk.1 e.symm
    · exact cellsne Lk.2 e.symm
  · have h1 := h.m1
    unfold Lm at h1 ⊢
    refine blk h1 (fun e => ?_) (fun e => ?_) (fun e => ?_)
    · have := h.it
      unfold It at this
      rw [e, this] at h1
      cases h1
    · rw [e, Lk.1] at h1; cases h1
    · rw [e, Lk.2] at h1; cases h1
  · have h1 := h.m2
    exact (h1.far F2 (it_ne_map h.it h1)).far F3 (fun e => by
      rcases e with e | e
      · exact map_ne h1 Lk.1 e.symm
      · exact map_ne h1 Lk.2 e.symm)
  · by_cases hjk : j = k
    · subst hjk
      have hm : j ∈ S ++ [j] := by simp
      rw [if_pos hm, if_pos hm, past_push]
      exact L
    · have hm : (j ∈ S ++ [k]) = (j ∈ S) := by simp [hjk]
      simp only [hm]
      have Lj := h.ln j hj
      obtain ⟨i1, i2⟩ := hi.inj j k hj hk hjk
      exact ⟨blk Lj.1 (cellsne Lj.1) i1 (tne Lj.1 Lk.2 (by decide)), blk Lj.2 (cellsne Lj.2) (tne Lj.2 Lk.1 (by decide)) i2⟩
  · refine ⟨F3.os.trans (F2.os.trans h.far.os), F3.tape.trans (F2.tape.trans h.far.tape), F3.output.trans (F2.output.trans h.far.output), Nat.le_trans h.far.size (Nat.le_trans F2.size F3.size), fun b hb hn => ?_⟩
    have h1 := h.far.size
    have h2 := F2.size
    have h3 := h.hr
    exact (F3.block b (by omega) (fun e => hn ⟨k, hk, e⟩)).trans ((F2.block b (by omega) (fun e => by omega)).trans (h.far.block b hb hn))
theorem Mid.start (h : Wi w A n H g) : Mid w (w.alloc (.mapIter (some A.M1) (4 * n) #[] (4 * n))) A n H g w.heap.size [] := by
  have F : Far (fun _ => False) w (w.alloc (.mapIter (some A.M1) (4 * n) #[] (4 * n))) := (Far.refl _ w).alloc _
  refine ⟨It.start w A.M1 (4 * n), Nat.le_refl _, (F.block _ (lt_of_blk h.st) (fun e => e)).trans h.st, h.m1.far F (fun e => e), h.m2.far F (fun e => e), fun k hk => ?_, F.wide (fun _ e => e.elim)⟩
  simp only [List.not_mem_nil, if_false]
  exact (h.ln k hk).far F (fun e => e) (fun e => e)
/-- The tick has ended. -/
theorem Mid.done {w wr w3 : World} {r : Nat} {S : List Nat} (h : Mid w wr A n H g r S) (hi : Wi w A n H g) (hall : ∀ k, k < 4 * n → k ∈ S) (am : Am (Value.int .i64) w3 A.M2 []) (F : Far (fun b => b = A.M2) wr w3) :
    Wi (w3.setCell ⟨A.B, 3, none⟩ (.int .i64 ((H.length : Nat) + 1))) A n ((fun j => get g j) :: H) [] ∧ Far (Own A n) w (w3.setCell ⟨A.B, 3, none⟩ (.int .i64 ((H.length : Nat) + 1))) := by
  have st3 := (F.block _ (lt_of_blk h.st) (map_ne h.m2 h.st)).trans h.st
  have ln3 := fun k (hk : k < 4 * n) => by
    have := h.ln k hk
    rw [if_pos (hall k hk), if_pos (hall k hk)] at this
    exact this.far F (map_ne h.m2 this.1) (map_ne h.m2 this.2)
  have F4 : Far (fun b => b = A.B) w3 (w3.setCell ⟨A.B, 3, none⟩ (.int .i64 ((H.length : Nat) + 1))) := Far.setCell (S := fun b => b = A.B) (Far.refl _ w3) (.inl rfl) _
  have tne : ∀ {b b' : Nat} {cs cs' : Array Value} {t t' : TypeId}, w3.heap[b]? = some (.cells cs t (0, 0)) → w3.heap[b']? = some (.cells cs' t' (0, 0)) → t ≠ t' → b ≠ b' := fun h1 h2 hne e => by
    subst e
    rw [h1] at h2
    cases h2
    exact hne rfl
  have m1 := h.m1.far F (fun e => hi.ne e)
  refine ⟨⟨hi.n4, hi.n16, ?_, m1.far F4 (fun e => ?_), am.far F4 (fun e => map_ne am st3 e.symm), fun k hk => ?_, hi.inj, hi.ne, fun k x hk => by cases hk⟩, ?_⟩
  · have := row_set st3 3 (.int .i64 ((H.length : Nat) + 1))
    exact this
  · unfold Lm at m1
    rw [e, st3] at m1
    cases m1
  · exact (ln3 k hk).far F4 (tne (ln3 k hk).1 st3 (by decide)) (tne (ln3 k hk).2 st3 (by decide))
  · exact (h.far.wide (fun b hb => .inr (.inr hb))).trans ((F.wide (fun b hb => .inr (.inl hb))).trans (F4.wide (fun b hb => .inl hb)))
set_option maxRecDepth 100000 in
set_option maxHeartbeats 4000000 in
theorem end_any (h : Wi w A n H g) (hH : H.length ≤ 1000) : Calls Tryd.prog 21 #[ptr A.B] w fun e w' => e = .returned (.int .i64 0) ∧ Wi w' A n ((fun j => get g j) :: H) [] ∧ Far (Own A n) w w' := by
  have T := hide (there_any h)
  have c0 := row_cell h.st 0
  have hr := h.m1.range (P := Tryd.prog) 48 3 83 Tryd.underlying48
  have HI := hide h
  have M0 := hide (Mid.start h)
  clear h
  go_enter Tryd.func21, Tryd.ntmps21
  go_wp2_with fail
  refine T.out.mono ?_
  rintro e w' ⟨rfl, rfl⟩
  go_wp2_with fail
  clear hr c0
  have hH' : ((H.length : Nat) : Int) ≤ 1000 := by omega
  have hH0 : (0 : Int) ≤ ((H.length : Nat) : Int) := by omega
  obtain ⟨t, ht⟩ : ∃ t : Int, ((H.length : Nat) : Int) = t := ⟨_, rfl⟩
  rw [ht] at hH' hH0
  have HT := hide ht
  clear ht
  obtain ⟨r, hr⟩ : ∃ r, w.heap.size = r := ⟨_, rfl⟩
  rw [hr] at M0 ⊢
  clear hr
  go_loopg [16] (cnt (4 * n) []) (fun gk i wr => ∃ S, gk = cnt (4 * n) S ∧ Hid (Mid w wr A n H g r S))
  case atStart => exact ⟨[], rfl, M0⟩
  case round =>
    obtain ⟨S, hgk, M⟩ := hrel
    clear M0
    have c0 := row_cell M.out.st 0
    have c2 := row_cell M.out.st 2
    rcases M.out.m1.next_ (P := Tryd.prog) M.out.it with ⟨hall, hrun⟩ | ⟨k, w2, hk, hs, hrun, it2, lm2, F2, hen⟩
    · obtain ⟨w3, hcl, am, F3⟩ := M.out.m2.clear_ (P := Tryd.prog) 51 3 3 Tryd.underlying51
      have DN := hide (M.out.done HI.out hall am F3)
      have c3 := (cell_far' F3 (row_cell M.out.st 3) (fun e => map_ne M.out.m2 M.out.st e))
      have f3 : w3.frozen? ⟨A.B, 3, none⟩ = false := row_free ((F3.block _ (lt_of_blk M.out.st) (map_ne M.out.m2 M.out.st)).trans M.out.st) 3
      rw [HT.out] at c3 DN
      clear hall am F3
      go_wp2_with fail
      go_ret
      exact ⟨rfl, DN.out⟩
    · have cz := (cell_far' F2 (row_cell M.out.st 2) (fun e => it_ne_cells M.out.it M.out.st e))
      have hm2 := M.out.m2.far F2 (it_ne_map M.out.it M.out.m2)
      have lk := hm2.lookup (P := Tryd.prog) 51 3 3 Tryd.underlying51 Tryd.underlying3 (.int .i64 0) (by kernel_rfl) k true
      simp only [if_true] at lk
      have Lk := M.out.ln k hk
      rw [if_neg hs, if_neg hs, HT.out] at Lk
      have Lk := hide (Lk.far F2 (fun e => it_ne_cells M.out.it Lk.1 e) (fun e => it_ne_cells M.out.it Lk.2 e))
      have ST := hide (fun w3 L F3 => by have := M.out.step (w3 := w3) HI.out hk hs it2 F2 (by rw [HT.out]; exact L) F3; exact this)
      have hcl := cnt_less hk hs
      clear it2 lm2 F2 hm2
      obtain ⟨o, ho⟩ : ∃ o, get g (k : Int) = o := ⟨_, rfl⟩
      rw [ho] at lk ST
      clear ho
      cases o with
      | none =>
        simp only [Option.map_none, Option.getD_none, Option.isSome_none] at lk
        go_wp2_with fail
        refine (send_none _ _ _ _ _ _ (hop_12 k) hH0 (by omega) Lk.out).mono ?_
        rintro e w3 ⟨rfl, L3, F3⟩
        have MM := hide (ST.out w3 L3 F3)
        clear L3 F3 ST Lk
        go_wp2_with fail
        go_roundg (cnt (4 * n) (S ++ [k]))
        case measure => omega
        case rel => exact ⟨S ++ [k], rfl, MM⟩
      | some v =>
        simp only [Option.map_some, Option.getD_some, Option.isSome_some] at lk
        go_wp2_with fail
        refine (send_some _ _ _ _ _ v _ _ _ (hop_12 k) hH0 (by omega) (Lk.out.alloc _) (cell_new _ _ _ _ 0)).mono ?_
        rintro e w3 ⟨rfl, L3, F3⟩
        have MM := hide (ST.out w3 L3 (((Far.refl _ w2).alloc _).trans F3))
        clear L3 F3 ST Lk
        go_wp2_with fail
        go_roundg (cnt (4 * n) (S ++ [k]))
        case measure => omega
        case rel => exact ⟨S ++ [k], rfl, MM⟩
end
end Wr
end Go.Proofs.YtbniijmabebhoaaDoor
