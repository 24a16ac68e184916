/- Words that all proofs of this seat share: what a flat argument (numbers, bools, texts, structs and arrays of these) reads as, cell by cell; a slice that reads as a list; small lemmas on endings. -/
import Derived.WalkKit
import Derived.ProofKit
import Derived.OpenShut
import Derived.ChangeOld
import Derived.Below
import Derived.Deep.Slices
import Derived.Deep.Draws
import Derived.Maps.AppendAt
import Derived.Deep.AppendLies
import Derived.Laws.OwnMore
namespace Go.Proofs.YtbniijmabebhoaaDoor
open Go.ChangeShapes Go.WideShapes Go.ChangeAt Go.RowKit Go.Deep
set_option linter.unusedVariables false
set_option linter.unusedSimpArgs false

theorem hide {p : Prop} (h : p) : Hid p := h
theorem ret_int {k : IntKind} {a b : Int} (h : a = b) : Ending.returned (.int k a) = .returned (.int k b) := by rw [h]
theorem ret_bool {a b : Bool} (h : a = b) : Ending.returned (.bool a) = .returned (.bool b) := by rw [h]

/-- The kind of one cell. -/
inductive FK where
  | int (k : IntKind)
  | bool
  | str
def FK.ok : FK → Value → Prop
  | .int k, v => ∃ n, v = .int k n ∧ (Lit.int k n).wf = true
  | .bool, v => ∃ b, v = .bool b
  | .str, v => ∃ s : ByteArray, v = .string s ∧ s.size ≤ maxLen
/-- The cells' kinds of a struct's fields, if these lie one behind the other. -/
def flatS (P : Program) (g : TypeId → Option (List FK)) : Nat → List Field → Option (List FK)
  | _, [] => some []
  | off, fl :: r =>
    match g fl.type with
    | none => none
    | some a => if fl.offset = off ∧ a.length = P.cellsOf fl.type then (match flatS P g (off + a.length) r with | none => none | some b => some (a ++ b)) else none
def flat (P : Program) : Nat → TypeId → Option (List FK)
  | 0, _ => none
  | f + 1, t =>
    match P.underlying t with
    | some .bool => some [.bool]
    | some (.int k) => some [.int k]
    | some .string => some [.str]
    | some (.struct fs) => match flatS P (flat P f) 0 fs.toList with | none => none | some l => if l.length = P.cellsOf t then some l else none
    | some (.array n e) => match flat P f e with | none => none | some a => if a.length = P.cellsOf e ∧ n * P.cellsOf e = P.cellsOf t then some (List.replicate n a).flatten else none
    | _ => none
inductive Fits : List FK → List Value → Prop
  | nil : Fits [] []
  | cons {k : FK} {v : Value} {ks : List FK} {vs : List Value} : k.ok v → Fits ks vs → Fits (k :: ks) (v :: vs)
theorem Fits.length {ks : List FK} {cs : List Value} (h : Fits ks cs) : cs.length = ks.length := by
  induction h with
  | nil => rfl
  | cons _ _ ih => simp [ih]
theorem Fits.append {ks ks' : List FK} {cs cs' : List Value} (h : Fits ks cs) (h' : Fits ks' cs') : Fits (ks ++ ks') (cs ++ cs') := by
  induction h with
  | nil => exact h'
  | cons h1 _ ih => exact .cons h1 ih
theorem Fits.un {k : FK} {ks : List FK} {cs : List Value} (h : Fits (k :: ks) cs) : ∃ v r, cs = v :: r ∧ k.ok v ∧ Fits ks r := by
  cases h with
  | cons h1 h2 => exact ⟨_, _, rfl, h1, h2⟩
theorem Fits.un0 {cs : List Value} (h : Fits [] cs) : cs = [] := by cases h; rfl
theorem Fits.at_ {ks : List FK} {cs : List Value} (h : Fits ks cs) : ∀ (i : Nat) (k : FK), ks[i]? = some k → ∃ v, cs[i]? = some v ∧ k.ok v := by
  induction h with
  | nil => intro i k h; simp at h
  | cons h1 _ ih =>
    intro i k h
    cases i with
    | zero => simp at h; subst h; exact ⟨_, rfl, h1⟩
    | succ i => simpa using ih i k (by simpa using h)

section
variable {H : Type} {enc : TypeId × Value → H} {P : Program} {w : World} {base : Nat} {spare : Nat → Bool} {held : Bool}
theorem fitsS (g : TypeId → Option (List FK)) (n : Nat) (hg : ∀ (t : TypeId) (ks : List FK) (cs : List Value) (x : DataW H × List MemPlace), g t = some ks → DataW.trod enc P w base spare held n t cs = some x → Fits ks cs) :
    ∀ (fs : List Field) (off : Nat) (ks : List FK) (cs : List Value) (xs : List (DataW H × List MemPlace)), flatS P g off fs = some ks → xs.length = fs.length →
      (∀ (i : Nat) (f : Field), fs[i]? = some f → DataW.trod enc P w base spare held n f.type ((cs.drop f.offset).take (P.cellsOf f.type)) = xs[i]?) → Fits ks ((cs.drop off).take ks.length) := by
  intro fs
  induction fs with
  | nil =>
    intro off ks cs xs h _ _
    simp [flatS] at h
    subst h
    simp
    exact .nil
  | cons f r ih =>
    intro off ks cs xs h hl hx
    simp only [flatS] at h
    cases ha : g f.type with
    | none => rw [ha] at h; simp at h
    | some a =>
      rw [ha] at h
      simp only at h
      split at h
      · rename_i hc
        obtain ⟨h1, h2⟩ := hc
        cases hb : flatS P g (off + a.length) r with
        | none => rw [hb] at h; simp at h
        | some b =>
          rw [hb] at h
          simp at h
          subst h
          cases xs with
          | nil => simp at hl
          | cons x xs =>
            have e0 := hx 0 f rfl
            simp at e0
            rw [h1, ← h2] at e0
            have f0 := hg _ _ _ _ ha e0
            have f1 := ih (off + a.length) b cs xs hb (by simpa using hl) (fun i f' hf => by simpa using hx (i + 1) f' (by simpa using hf))
            have e : (cs.drop off).take (a ++ b).length = (cs.drop off).take a.length ++ (cs.drop (off + a.length)).take b.length := by
              rw [List.length_append, List.take_add, List.drop_drop]
            rw [e]
            exact f0.append f1
      · simp at h
theorem fitsA {e : TypeId} {a : List FK} (hl : a.length = P.cellsOf e) : ∀ (k : Nat) (cs : List Value),
      (∀ (i : Nat), i < k → Fits a ((cs.drop (i * P.cellsOf e)).take (P.cellsOf e))) → cs.length = k * P.cellsOf e → Fits (List.replicate k a).flatten cs := by
  intro k
  induction k with
  | zero => intro cs _ h; simp at h; subst h; exact .nil
  | succ k ih =>
    intro cs hx hcl
    have h0 := hx 0 (by omega)
    simp at h0
    have h1 := ih (cs.drop (P.cellsOf e)) (fun i hi => by
      have := hx (i + 1) (by omega)
      rw [List.drop_drop, show P.cellsOf e + i * P.cellsOf e = (i + 1) * P.cellsOf e from by rw [Nat.add_mul, Nat.one_mul, Nat.add_comm]]
      exact this) (by rw [List.length_drop, hcl, Nat.add_mul, Nat.one_mul, Nat.add_sub_cancel])
    rw [List.replicate_succ, List.flatten_cons]
    have := h0.append h1
    rwa [List.take_append_drop] at this
/-- What reads as data of a flat type is, cell by cell, of the type's kinds. -/
theorem fits_of : ∀ (f n : Nat) (t : TypeId) (ks : List FK) (cs : List Value) (x : DataW H × List MemPlace), flat P f t = some ks → DataW.trod enc P w base spare held n t cs = some x → Fits ks cs := by
  intro f
  induction f with
  | zero => intro n t ks cs x h; simp [flat] at h
  | succ f ih =>
    intro n t ks cs x h hx
    unfold flat at h
    split at h
    · rename_i ht
      simp at h; subst h
      cases n with
      | zero => simp [DataW.trod] at hx
      | succ n =>
        unfold DataW.trod at hx
        rw [ht] at hx
        split at hx <;> simp_all
        exact .cons ⟨_, rfl⟩ .nil
    · rename_i k ht
      simp at h; subst h
      cases n with
      | zero => simp [DataW.trod] at hx
      | succ n =>
        unfold DataW.trod at hx
        rw [ht] at hx
        split at hx <;> simp_all
        exact .cons ⟨_, rfl, hx.1.2⟩ .nil
    · rename_i ht
      simp at h; subst h
      cases n with
      | zero => simp [DataW.trod] at hx
      | succ n =>
        unfold DataW.trod at hx
        rw [ht] at hx
        split at hx <;> simp_all
        exact .cons ⟨_, rfl, hx.1⟩ .nil
    · rename_i fs ht
      cases hl : flatS P (flat P f) 0 fs.toList with
      | none => rw [hl] at h; simp at h
      | some l =>
        rw [hl] at h
        simp only at h
        split at h
        · rename_i hlen
          simp at h
          subst h
          obtain ⟨xs, m, rfl, _, hcl, hxl, hg⟩ := DataW.trod_struct ht hx
          have := fitsS (H := H) (enc := enc) (w := w) (base := base) (spare := spare) (held := held) (flat P f) m (fun t ks cs x h1 h2 => ih m t ks cs x h1 h2) fs.toList 0 l cs xs hl (by simpa using hxl) (fun i f' hf => hg i f' (by simpa using hf))
          rw [hlen, ← hcl] at this
          simpa using this
        · simp at h
    · rename_i m e ht
      cases ha : flat P f e with
      | none => rw [ha] at h; simp at h
      | some a =>
        rw [ha] at h
        simp only at h
        split at h
        · rename_i hal
          simp at h
          subst h
          obtain ⟨xs, m', rfl, _, hcl, hxl, hg⟩ := DataW.trod_array ht hx
          refine fitsA hal.1 m cs (fun i hi => ?_) (by rw [hcl, hal.2])
          have hxi : xs[i]? = some (xs[i]'(by omega)) := List.getElem?_eq_getElem (by omega)
          exact ih m' e a _ _ ha ((hg i hi).trans hxi)
        · simp at h
    · simp at h
/-- An argument of a flat type with more than one cell. -/
theorem open_flat {r : Reach} {b0 f : Nat} {t : TypeId} {ks : List FK} {v : Value} {d : DataW H} {p : List MemPlace} (hk : flat P f t = some ks) (ht : (∃ fs, P.underlying t = some (.struct fs)) ∨ ∃ n e, P.underlying t = some (.array n e))
    (hv : Value.okWide P w r b0 t v) (h : DataW.Trod enc P w base spare held t v d p) : ∃ cs : List Value, v = .agg cs.toArray ∧ Fits ks cs := by
  have hs : ∃ cs : Array Value, v = .agg cs := by
    rcases ht with ⟨fs, ht⟩ | ⟨n, e, ht⟩
    · simp only [Value.okWide, ht] at hv
      obtain ⟨cs, h1, _⟩ := hv
      exact ⟨cs, h1⟩
    · simp only [Value.okWide, ht] at hv
      obtain ⟨cs, h1, _⟩ := hv
      exact ⟨cs, h1⟩
  obtain ⟨cs, rfl⟩ := hs
  obtain ⟨fuel, hf⟩ := h
  exact ⟨cs.toList, by simp, fits_of f fuel t ks _ _ hk hf⟩
/-- A slice that came in, of a flat type: nil, or its cells, element by element, up to its length. -/
theorem open_flats {r : Reach} {b0 f : Nat} {t e : TypeId} {ks : List FK} {v : Value} {d : DataW H} {p : List MemPlace} (hk : flat P f e = some ks) (hC : P.cellsOf e = ks.length) (ht : P.underlying t = some (.slice e))
    (hv : Value.okWide P w r b0 t v) (h : DataW.Trod enc P w base spare held t v d p) :
    ∃ (A : Option Addr) (len cap : Nat), v = .slice A len cap ∧ len ≤ cap ∧ cap ≤ maxLen ∧ (A = none → len = 0 ∧ cap = 0) ∧
      ∀ ad, A = some ad → ∀ i, i < len → ∃ cs, Fits ks cs ∧ ∀ (j : Nat) (u : Value), cs[j]? = some u → w.cell? (ad.add (i * ks.length + j)) = some u := by
  obtain ⟨A, len, cap, rfl⟩ := okWide_slice ht hv
  obtain ⟨fuel, hf⟩ := h
  rcases open_slice ht hf with ⟨h0, _⟩ | ⟨a, len', cap', m, n, D, Pl, hcs, _, hl, hm, hmm, _, hi⟩
  · simp [Value.cells] at h0
    obtain ⟨rfl, rfl, rfl⟩ := h0
    exact ⟨none, 0, 0, rfl, by omega, by omega, fun _ => ⟨rfl, rfl⟩, (fun ad h => by cases h)⟩
  · simp [Value.cells] at hcs
    obtain ⟨rfl, rfl, rfl⟩ := hcs
    refine ⟨some a, len, cap, rfl, hl, hm, (fun h => by cases h), fun ad had i hil => ?_⟩
    cases had
    obtain ⟨cs', hc, ht'⟩ := hi i (by rw [hmm]; split <;> omega)
    obtain ⟨_, hcl, hat⟩ := World.cells?_some hc
    refine ⟨cs', fits_of f n e ks _ _ hk ht', fun j u hu => ?_⟩
    have hj : j < cs'.length := (List.getElem?_eq_some_iff.1 hu).1
    rw [← hu, ← hat j (by omega), add_add, hC]
end

/-! ### A slice that reads as a list of cells. -/
theorem add_block (a : Addr) (n : Nat) : (a.add n).block = a.block := by unfold Addr.add; split <;> rfl
/-- The address A leads to the cells xs, in a block below B (whatever A is, where xs is empty). -/
def Sl (w : World) (B : Nat) (A : Option Addr) (xs : List Value) : Prop := ∀ (k : Nat) (u : Value), xs[k]? = some u → ∃ ad, A = some ad ∧ ad.block < B ∧ w.cell? (ad.add k) = some u
section
variable {w w' : World} {B B' : Nat} {A : Option Addr} {xs : List Value}
theorem Sl.nil : Sl w B A [] := fun k u h => by simp at h
theorem Sl.at_ (h : Sl w B A xs) {k : Nat} (hk : k < xs.length) : ∃ ad, A = some ad ∧ ad.block < B ∧ w.cell? (ad.add k) = some xs[k] := h k _ (List.getElem?_eq_getElem hk)
theorem Sl.keep (h : Sl w B A xs) (hk : ∀ p : Addr, p.block < B → w'.cell? p = w.cell? p) : Sl w' B A xs := fun k u hu => by
  obtain ⟨ad, e, hb, hc⟩ := h k u hu
  exact ⟨ad, e, hb, (hk _ (by rw [add_block]; exact hb)).trans hc⟩
theorem Sl.more (h : Sl w B A xs) (hB : B ≤ B') : Sl w B' A xs := fun k u hu => by
  obtain ⟨ad, e, hb, hc⟩ := h k u hu
  exact ⟨ad, e, by omega, hc⟩
theorem Sl.below (h : Sl w B A xs) (hb : Below B w w') : Sl w' B A xs := h.keep fun _ hp => hb.cell hp
theorem Sl.drewN (h : Sl w B A xs) (k : Nat) : Sl (w.drewN k) B A xs := h
theorem Sl.alloc (h : Sl w B A xs) (hB : B ≤ w.heap.size) (o : Obj) : Sl (w.alloc o) B A xs := h.keep fun p hp => World.cell?_alloc_lt w o p (by omega)
theorem Sl.setCell (h : Sl w B A xs) {p : Addr} (hB : B ≤ p.block) (u : Value) : Sl (w.setCell p u) B A xs :=
  h.keep fun q hq => World.cell?_setCell_other w p q u (fun e => by subst e; omega)
theorem Sl.grown (h : Sl w B A xs) {row : Option Nat} (hg : w.grownBy w' row) (hB : B ≤ w.heap.size) (hr : ∀ g, row = some g → B ≤ g) : Sl w' B A xs :=
  h.keep fun p hp => World.cell?_of_block (hg.block p.block (by omega) (fun e => by have := hr _ e.symm; omega))
theorem Sl.pre (h : Sl w B A xs) (k : Nat) : Sl w B A (xs.take k) := fun j u hu => h j u (by rw [List.getElem?_take] at hu; split at hu <;> simp_all)
/-- What stands from place k on. -/
theorem Sl.cut (h : Sl w B A xs) {k cap : Nat} (hk : k ≤ xs.length) (hc : xs.length ≤ cap) : Sl w B (if cap = k then A else A.map (·.add k)) (xs.drop k) := fun j u hu => by
  rw [List.getElem?_drop] at hu
  obtain ⟨ad, rfl, hb, hcell⟩ := h _ _ hu
  have hlt : k + j < xs.length := (List.getElem?_eq_some_iff.1 hu).1
  rw [if_neg (by omega)]
  exact ⟨ad.add k, rfl, by rw [add_block]; exact hb, by rw [add_add]; exact hcell⟩
theorem Sl.of_own {base : Nat} {e : TypeId} {size n c : Nat} (h : w.ownsRow base e size (.slice A n c) n xs) : Sl w w.heap.size A xs := fun k u hu => by
  rcases h.2 with ⟨h1, rfl⟩ | ⟨g, cap, cur, hv, _, hg, _, _, _, ht⟩
  · have := h.1
    simp at this
    subst this
    simp at hu
  · injection hv with h1 _ _
    subst h1
    have hlt : g < w.heap.size := by
      rcases Nat.lt_or_ge g w.heap.size with h | h
      · exact h
      · rw [Array.getElem?_eq_none h] at hg; cases hg
    exact ⟨_, rfl, hlt, h.cells (g := g) rfl k u hu⟩
end

theorem alloc_size (w : World) (o : Obj) : (w.alloc o).heap.size = w.heap.size + 1 := by simp
theorem cell_new (w : World) (cs : Array Value) (t : TypeId) (fz : Nat × Nat) (k : Nat) : (w.alloc (.cells cs t fz)).cell? ⟨w.heap.size, k, none⟩ = cs[k]? := by
  have h : (w.alloc (.cells cs t fz)).heap[w.heap.size]? = some (.cells cs t fz) := by
    show (w.heap.push _)[w.heap.size]? = _
    simp
  unfold World.cell?
  rw [h]
  rfl
/-- A new block, as a slice. -/
theorem Sl.new (w : World) (cs : Array Value) (t : TypeId) (fz : Nat × Nat) (xs : List Value) (h : xs = cs.toList) : Sl (w.alloc (.cells cs t fz)) (w.alloc (.cells cs t fz)).heap.size (some ⟨w.heap.size, 0, none⟩) xs := by
  intro k u hu
  subst h
  refine ⟨_, rfl, by rw [alloc_size]; show w.heap.size < _; omega, ?_⟩
  have : (⟨w.heap.size, 0, none⟩ : Addr).add k = ⟨w.heap.size, k, none⟩ := by unfold Addr.add; split <;> simp_all
  rw [this, cell_new, ← hu]
  simp
section
variable {P : Program} (w : World)
/-- append onto a row of the call's own, whatever the source: nil, empty, cut, or not. -/
theorem run_append_sl (base : Nat) (t ty e : TypeId) (i : TypeInfo) (z : Value) (size bytes : Nat) (ht : P.underlying t = some (.slice e)) (hi : P.info? e = some i) (hz : i.zero = some z)
    (hsize : i.size = size) (hby : i.bytes = bytes) (hzs : z.cells.size = size) (hsz : 0 < size) (v : Value) (n : Nat) (xs : List Value) (hown : w.ownsRow base e size v n xs)
    (B : Nat) (A : Option Addr) (m c : Nat) (news : List Value) (hl : news.length = m * size) (hr : Sl w B A news) (h1 : ∀ u ∈ news, u.oneCell' = true)
    (h63 : n + m ≤ maxLen) (hbytes : (n + m) * bytes ≤ 140737488355328) (hbase : base ≤ w.heap.size) :
    ∃ v' w', (Builtin.append_ #[t, t] ty #[v, .slice A m c]).run P w = .ok v' w' ∧ w'.ownsRow base e size v' (n + m) (xs ++ news) ∧ w.grownBy w' v.ownBlock ∧
      (v'.ownBlock = v.ownBlock ∨ v'.ownBlock = some w.heap.size) := by
  rcases A with _ | ad
  · have hn : news = [] := by
      rcases news with _ | ⟨u, r⟩
      · rfl
      · obtain ⟨ad, h, _⟩ := hr 0 u rfl
        cases h
    subst hn
    have hm : m = 0 := by
      rcases Nat.eq_zero_or_pos m with h0 | h0
      · exact h0
      · have := Nat.mul_pos h0 hsz
        simp at hl
        omega
    subst hm
    have hrun : (Builtin.append_ #[t, t] ty #[v, .slice none 0 c]).run P w = .ok v w := by
      rcases hown.2 with ⟨rfl, rfl⟩ | ⟨g, cap, cur, rfl, _, _, hnc, _⟩
      · simp [Builtin.append_, run_underlying ht, sizeOf, typeInfo, hi, Builtin.lenOf, Builtin.firstCells]
      · simp [Builtin.append_, run_underlying ht, sizeOf, typeInfo, hi, Builtin.lenOf, Builtin.firstCells, hnc, storeCells]
    exact ⟨v, w, hrun, by simpa using hown, World.grownBy.refl w _, .inl rfl⟩
  · have hcells : ∀ j u, news[j]? = some u → w.cell? (ad.add j) = some u := fun j u hu => by
      obtain ⟨ad', h, _, hc⟩ := hr j u hu
      cases h
      exact hc
    obtain ⟨v', w', hrun, h2, h3, _, h5⟩ := run_append_own_at (P := P) w base t ty e i z size bytes ht hi hz hsize hby hzs hsz v n xs hown ad m c news hl hcells h1 h63 hbytes hbase
    exact ⟨v', w', hrun, h2, h3, h5⟩
theorem wpList_append_sl {ops : Array Oper} {rest : List Oper} {o : Oper} {a : Act} {Q : Exit → Act → World → Prop} (hgd : o.guard = none) (s x : Operand) (t : TypeId)
    (ho : o.op = .call { callee := .builtin .append, args := #[s, x], argTypes := #[t, t] })
    (base : Nat) (e : TypeId) (i : TypeInfo) (z : Value) (size bytes : Nat) (ht : P.underlying t = some (.slice e)) (hi : P.info? e = some i) (hz : i.zero = some z)
    (hsize : i.size = size) (hby : i.bytes = bytes) (hzs : z.cells.size = size) (hsz : 0 < size)
    (v : Value) (n : Nat) (xs : List Value) (hs : a.eval s = v) (hown : w.ownsRow base e size v n xs)
    (B : Nat) (A : Option Addr) (m c : Nat) (news : List Value) (hx : a.eval x = .slice A m c) (hl : news.length = m * size) (hr : Sl w B A news) (h1 : ∀ u ∈ news, u.oneCell' = true)
    (h63 : n + m ≤ maxLen) (hbytes : (n + m) * bytes ≤ 140737488355328) (hbase : base ≤ w.heap.size)
    (h : ∀ v' w', w'.ownsRow base e size v' (n + m) (xs ++ news) → w.grownBy w' v.ownBlock → (v'.ownBlock = v.ownBlock ∨ v'.ownBlock = some w.heap.size) → wpList P ops Q rest (a.put o.dst v') w') : wpList P ops Q (o :: rest) a w :=
  wpList_plain hgd fun K hK => by
    obtain ⟨v', w', hrun, h2, h3, h4⟩ := run_append_sl (P := P) w base t o.type e i z size bytes ht hi hz hsize hby hzs hsz v n xs hown B A m c news hl hr h1 h63 hbytes hbase
    unfold Oper.wp execOp
    simp only [ho, resolve, invoke, builtin, Sem.run_bind, Sem.run_pure, Result.andThen_ok, List.map_toArray, List.map_cons, List.map_nil, hs, hx, hrun]
    exact hK _ _ (h v' w' h2 h3 h4)
end

/-! ### A slice that came in, as one list. -/
theorem lt_of_cell {w : World} {p : Addr} {u : Value} (h : w.cell? p = some u) : p.block < w.heap.size := by
  rcases Nat.lt_or_ge p.block w.heap.size with h0 | h0
  · exact h0
  · unfold World.cell? at h
    rw [Array.getElem?_eq_none h0] at h
    cases h
theorem choose_list {β : Type} (q : Nat → β → Prop) : ∀ n : Nat, (∀ i, i < n → ∃ x, q i x) → ∃ xs : List β, xs.length = n ∧ ∀ (i : Nat) (x : β), xs[i]? = some x → q i x := by
  intro n
  induction n with
  | zero => intro _; exact ⟨[], rfl, fun i x h => by simp at h⟩
  | succ n ih =>
    intro h
    obtain ⟨xs, hl, hx⟩ := ih (fun i hi => h i (by omega))
    obtain ⟨x, hq⟩ := h n (by omega)
    refine ⟨xs ++ [x], by simp [hl], fun i y hy => ?_⟩
    rw [List.getElem?_append] at hy
    split at hy
    · exact hx i y hy
    · have hi : i = n := by
        have := (List.getElem?_eq_some_iff.1 hy).1
        simp at this
        omega
      subst hi
      simp [hl] at hy
      subst hy
      exact hq
theorem list_one {w : World} {k : FK} {A : Option Addr} {len cap : Nat} (nn : A = none → len = 0 ∧ cap = 0)
    (ce : ∀ ad, A = some ad → ∀ i, i < len → ∃ cs, Fits [k] cs ∧ ∀ (j : Nat) (u : Value), cs[j]? = some u → w.cell? (ad.add (i * [k].length + j)) = some u) :
    ∃ xs : List Value, xs.length = len ∧ (∀ u ∈ xs, k.ok u) ∧ Sl w w.heap.size A xs := by
  rcases A with _ | ad
  · obtain ⟨rfl, _⟩ := nn rfl
    exact ⟨[], rfl, fun u h => by simp at h, Sl.nil⟩
  · obtain ⟨xs, hl, hx⟩ := choose_list (fun i u => k.ok u ∧ w.cell? (ad.add i) = some u) len (fun i hi => by
      obtain ⟨cs, hf, hc⟩ := ce ad rfl i hi
      obtain ⟨v, r, rfl, hk, _⟩ := hf.un
      exact ⟨v, hk, by simpa using hc 0 v rfl⟩)
    refine ⟨xs, hl, fun u hu => ?_, fun i u hu => ⟨ad, rfl, ?_, (hx i u hu).2⟩⟩
    · obtain ⟨i, hi, rfl⟩ := List.mem_iff_getElem.1 hu
      exact (hx i _ (List.getElem?_eq_getElem hi)).1
    · have := lt_of_cell (hx i u hu).2
      rwa [add_block] at this
theorem bools_of {xs : List Value} (h : ∀ u ∈ xs, FK.bool.ok u) : ∃ bs : List Bool, xs = bs.map .bool := by
  induction xs with
  | nil => exact ⟨[], rfl⟩
  | cons u r ih =>
    obtain ⟨b, rfl⟩ := h u (by simp)
    obtain ⟨bs, rfl⟩ := ih (fun v hv => h v (by simp [hv]))
    exact ⟨b :: bs, rfl⟩
theorem ints_of {k : IntKind} {xs : List Value} (h : ∀ u ∈ xs, (FK.int k).ok u) : ∃ zs : List Int, xs = zs.map (.int k) ∧ ∀ n ∈ zs, (Lit.int k n).wf = true := by
  induction xs with
  | nil => exact ⟨[], rfl, fun n h => by simp at h⟩
  | cons u r ih =>
    obtain ⟨b, rfl, hb⟩ := h u (by simp)
    obtain ⟨bs, rfl, hw⟩ := ih (fun v hv => h v (by simp [hv]))
    refine ⟨b :: bs, rfl, fun n hn => ?_⟩
    rcases List.mem_cons.1 hn with rfl | hn
    · exact hb
    · exact hw n hn
theorem one_bools (bs : List Bool) : ∀ u ∈ bs.map Value.bool, u.oneCell' = true := by
  intro u hu
  obtain ⟨b, _, rfl⟩ := List.mem_map.1 hu
  rfl
theorem one_ints (k : IntKind) (zs : List Int) : ∀ u ∈ zs.map (Value.int k), u.oneCell' = true := by
  intro u hu
  obtain ⟨b, _, rfl⟩ := List.mem_map.1 hu
  rfl

/-- What a row of the call's own looks like, as a slice. -/
theorem own_shape {w : World} {base : Nat} {e : TypeId} {size n : Nat} {v : Value} {xs : List Value} (h : w.ownsRow base e size v n xs) :
    ∃ A c, v = .slice A n c ∧ n ≤ c ∧ c ≤ maxLen ∧ xs.length = n * size ∧ Sl w w.heap.size A xs := by
  rcases h.2 with ⟨rfl, rfl⟩ | ⟨g, cap, cur, rfl, hb, hg, hc, hm, h5, ht⟩
  · exact ⟨none, 0, rfl, by omega, by omega, h.1, Sl.of_own h⟩
  · exact ⟨_, cap, rfl, hc, hm, h.1, Sl.of_own h⟩
theorem own_shape1 {w : World} {base : Nat} {e : TypeId} {v u : Value} (h : w.ownsRow base e 1 v (0 + 1) ([] ++ [u])) :
    ∃ g cap cur, v = .slice (some ⟨g, 0, none⟩) 1 cap ∧ base ≤ g ∧ w.heap[g]? = some (.cells cur e (0, 0)) ∧ 1 ≤ cap ∧ cap ≤ maxLen ∧ cur.size = cap ∧ cur[0]? = some u := by
  rcases h.2 with ⟨_, h0⟩ | ⟨g, cap, cur, rfl, hb, hg, hc, hm, h5, ht⟩
  · omega
  · refine ⟨g, cap, cur, rfl, hb, hg, hc, hm, by simpa using h5, ?_⟩
    have : (cur.toList.take ((0 + 1) * 1))[0]? = some u := by rw [ht]; rfl
    simpa using this
theorem cell_new' (w : World) (cs : Array Value) (t : TypeId) (fz : Nat × Nat) (k n : Nat) (hn : n = w.heap.size) : (w.alloc (.cells cs t fz)).cell? ⟨n, k, none⟩ = cs[k]? := by subst hn; exact cell_new w cs t fz k
/-- A slice of one cell. -/
theorem Sl.one {w : World} {g : Nat} {u : Value} (h : w.cell? ⟨g, 0, none⟩ = some u) : Sl w (g + 1) (some ⟨g, 0, none⟩) [u] := by
  intro k v hk
  match k, hk with
  | 0, hk =>
    simp at hk
    subst hk
    exact ⟨_, rfl, by show g < g + 1; omega, by simpa [Addr.add] using h⟩
theorem Sl.new' (w : World) (cs : Array Value) (t : TypeId) (fz : Nat × Nat) (xs : List Value) (n : Nat) (hn : n = w.heap.size) (h : xs = cs.toList) :
    Sl (w.alloc (.cells cs t fz)) (w.alloc (.cells cs t fz)).heap.size (some ⟨n, 0, none⟩) xs := by subst hn; exact Sl.new w cs t fz xs h
end Go.Proofs.YtbniijmabebhoaaDoor
