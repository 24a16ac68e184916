/- Maps by integers, as lists of keys and values: looked up, written, struck, cleared, gone through. -/
import Derived.Test.YtbniijmabebhoaaDoorLinesInt
import Derived.Maps.Range
import Derived.MapKept
namespace Go.Proofs.YtbniijmabebhoaaDoor
open Go.RowKit
set_option linter.unusedVariables false
namespace Mp
variable {α : Type}
def pos (k : Int) : List (Int × α) → Nat → Option (Nat × α)
  | [], _ => none
  | p :: r, i => if p.1 == k then some (i, p.2) else pos k r (i + 1)
def get (l : List (Int × α)) (k : Int) : Option α := (pos k l 0).map (·.2)
def upd (k : Int) (v : α) : List (Int × α) → List (Int × α)
  | [] => [(k, v)]
  | p :: r => if p.1 == k then (k, v) :: r else p :: upd k v r
def del (k : Int) : List (Int × α) → List (Int × α)
  | [] => []
  | p :: r => if p.1 == k then r else p :: del k r
theorem pos_get (k : Int) (l : List (Int × α)) : ∀ i j : Nat, (pos k l i).map (·.2) = (pos k l j).map (·.2) := by
  induction l with
  | nil => intro i j; rfl
  | cons p r ih =>
    intro i j
    unfold pos
    by_cases h : (p.1 == k) = true
    · simp [h]
    · simp only [h, Bool.false_eq_true, if_false]; exact ih _ _
theorem get_nil (k : Int) : get ([] : List (Int × α)) k = none := rfl
theorem get_cons (p : Int × α) (r : List (Int × α)) (k : Int) : get (p :: r) k = if p.1 = k then some p.2 else get r k := by
  have h0 : get (p :: r) k = (if p.1 == k then some (0, p.2) else pos k r 1).map (·.2) := rfl
  rw [h0]
  by_cases h : p.1 = k
  · simp [h]
  · have : (p.1 == k) = false := by simpa using h
    simp only [this, Bool.false_eq_true, if_false, if_neg h]
    exact pos_get k r 1 0
theorem get_upd (l : List (Int × α)) (k : Int) (v : α) (j : Int) : get (upd k v l) j = if j = k then some v else get l j := by
  induction l with
  | nil =>
    show get [(k, v)] j = _
    rw [get_cons, get_nil]
    by_cases h : k = j <;> simp [h, eq_comm]
  | cons p r ih =>
    unfold upd
    by_cases h : p.1 = k
    · simp only [h, beq_self_eq_true, if_true, get_cons]
      by_cases hj : k = j
      · simp [hj]
      · simp [hj, Ne.symm hj]
    · have hb : (p.1 == k) = false := by simpa using h
      simp only [hb, Bool.false_eq_true, if_false, get_cons, ih]
      by_cases hj : p.1 = j
      · subst hj; simp [h]
      · simp [hj]
theorem get_none (l : List (Int × α)) (k : Int) (h : ∀ p ∈ l, p.1 ≠ k) : get l k = none := by
  induction l with
  | nil => rfl
  | cons p r ih => rw [get_cons, if_neg (h p (by simp)), ih (fun q hq => h q (by simp [hq]))]
theorem get_del (l : List (Int × α)) (k : Int) (hn : (l.map (·.1)).Nodup) (j : Int) : get (del k l) j = if j = k then none else get l j := by
  induction l with
  | nil => simp [del, get_nil]
  | cons p r ih =>
    simp only [List.map_cons, List.nodup_cons] at hn
    unfold del
    by_cases h : p.1 = k
    · simp only [h, beq_self_eq_true, if_true, get_cons]
      by_cases hj : j = k
      · subst hj
        rw [if_pos rfl]
        refine get_none r _ (fun q hq e => hn.1 ?_)
        rw [h, ← e]
        exact List.mem_map.2 ⟨q, hq, rfl⟩
      · rw [if_neg hj, if_neg (fun e => hj e.symm)]
    · have hb : (p.1 == k) = false := by simpa using h
      simp only [hb, Bool.false_eq_true, if_false, get_cons, ih hn.2]
      by_cases hj : p.1 = j
      · subst hj; simp [h]
      · simp [hj]
theorem keys_upd (l : List (Int × α)) (k : Int) (v : α) (hn : (l.map (·.1)).Nodup) : ((upd k v l).map (·.1)).Nodup ∧ ∀ x ∈ (upd k v l).map (·.1), x = k ∨ x ∈ l.map (·.1) := by
  induction l with
  | nil => simp [upd]
  | cons p r ih =>
    simp only [List.map_cons, List.nodup_cons] at hn
    obtain ⟨h1, h2⟩ := ih hn.2
    unfold upd
    by_cases h : p.1 = k
    · simp only [h, beq_self_eq_true, if_true, List.map_cons, List.nodup_cons]
      rw [h] at hn
      exact ⟨hn, fun x hx => by rcases List.mem_cons.1 hx with rfl | hx <;> simp [*]⟩
    · have hb : (p.1 == k) = false := by simpa using h
      simp only [hb, Bool.false_eq_true, if_false, List.map_cons, List.nodup_cons]
      refine ⟨⟨fun hx => ?_, h1⟩, fun x hx => ?_⟩
      · rcases h2 _ hx with e | e
        · exact h e
        · exact hn.1 e
      · rcases List.mem_cons.1 hx with rfl | hx
        · simp
        · rcases h2 x hx with e | e <;> simp [e]
theorem keys_del (l : List (Int × α)) (k : Int) (hn : (l.map (·.1)).Nodup) : ((del k l).map (·.1)).Nodup ∧ ∀ x ∈ (del k l).map (·.1), x ∈ l.map (·.1) := by
  induction l with
  | nil => simp [del]
  | cons p r ih =>
    simp only [List.map_cons, List.nodup_cons] at hn
    obtain ⟨h1, h2⟩ := ih hn.2
    unfold del
    by_cases h : p.1 = k
    · simp only [h, beq_self_eq_true, if_true]
      exact ⟨hn.2, fun x hx => by simp only [List.map_cons, List.mem_cons]; exact .inr hx⟩
    · have hb : (p.1 == k) = false := by simpa using h
      simp only [hb, Bool.false_eq_true, if_false, List.map_cons, List.nodup_cons]
      refine ⟨⟨fun hx => hn.1 (h2 _ hx), h1⟩, fun x hx => ?_⟩
      rcases List.mem_cons.1 hx with rfl | hx
      · simp
      · simp only [List.mem_cons]; exact .inr (h2 x hx)
/-! ### In memory. -/
def prs (φ : α → Value) (l : List (Int × α)) : List (Value × Value) := l.map fun p => (Value.int .i64 p.1, φ p.2)
/-- The block M is a map that reads as the list l. -/
def Am (φ : α → Value) (w : World) (M : Nat) (l : List (Int × α)) : Prop :=
  ∃ es clock, w.heap[M]? = some (.map es clock) ∧ es.toList.map (fun e => (e.key, e.val)) = prs φ l ∧ (l.map (·.1)).Nodup
section
variable {P : Program} {w w' : World} {M : Nat} {l : List (Int × α)} {φ : α → Value}
theorem Am.lt (h : Am φ w M l) : M < w.heap.size := by
  obtain ⟨es, clock, h, _⟩ := h
  exact lt_of_blk h
theorem Am.far {S : Nat → Prop} (h : Am φ w M l) (hf : Far S w w') (hM : ¬ S M) : Am φ w' M l := by
  have hlt := h.lt
  obtain ⟨es, clock, h1, h2⟩ := h
  exact ⟨es, clock, (hf.block M hlt hM).trans h1, h2⟩
theorem Am.nil (w : World) : Am φ (w.alloc (.map #[] 0)) w.heap.size [] := ⟨#[], 0, (MapKept.heap_alloc w _).1, rfl, by simp⟩
theorem find_now (k : Int) : ∀ (es : List MapEntry) (l : List (Int × α)) (i : Nat), es.map (fun e => (e.key, e.val)) = prs φ l → Instr.findNow (.int .i64) (.int .i64 k) es i = some ((pos k l i).map fun q => (q.1, φ q.2)) := by
  intro es
  induction es with
  | nil => intro l i h; cases l with
    | nil => rfl
    | cons _ _ => simp [prs] at h
  | cons e es ih => intro l i h; cases l with
    | nil => simp [prs] at h
    | cons p r =>
      simp only [prs, List.map_cons, List.cons.injEq, Prod.mk.injEq] at h
      obtain ⟨⟨h1, h2⟩, h3⟩ := h
      unfold Instr.findNow pos
      rw [h1, h2]
      by_cases hk : p.1 = k
      · simp [Instr.sameNow, hk]
      · have h4 : (k == p.1) = false := by simpa using (fun e : k = p.1 => hk e.symm)
        have h5 : (p.1 == k) = false := by simpa using hk
        simp only [Instr.sameNow, if_true, h4, h5, Bool.false_eq_true, if_false]
        exact ih r _ h3
theorem run_findKey (kt : TypeId) (hk : P.underlying kt = some (.int .i64)) (k : Int) (es : List MapEntry) (h : es.map (fun e => (e.key, e.val)) = prs φ l) : (Instr.findKey kt (.int .i64 k) es).run P w = .ok ((pos k l 0).map fun q => (q.1, φ q.2)) w := by
  unfold Instr.findKey
  simp [run_underlying hk, find_now k es l 0 h]
theorem run_check (b : Bool) (kt : TypeId) (hk : P.underlying kt = some (.int .i64)) (k : Int) : (Instr.checkKey b 10000 kt (.int .i64 k)).run P w = .ok () w := by
  unfold Instr.checkKey
  simp [run_underlying hk]
theorem Am.lookup (h : Am φ w M l) (t kt et : TypeId) (ht : P.underlying t = some (.map kt et)) (hk : P.underlying kt = some (.int .i64)) (z : Value) (hz : (zeroValue et).run P w = .ok z w) (k : Int) (b : Bool) :
    (Instr.lookup t (.map (some M)) (.int .i64 k) b).run P w = .ok (if b then .tuple #[((get l k).map φ).getD z, .bool (get l k).isSome] else ((get l k).map φ).getD z) w := by
  obtain ⟨es, clock, h1, h2, _⟩ := h
  unfold Instr.lookup
  simp only [run_underlying ht, MapKept.run_getObj_map h1, run_check _ kt hk, run_findKey kt hk k es.toList h2, Sem.run_bind, Sem.run_pure, Result.andThen_ok]
  unfold get
  cases hp : pos k l 0 with
  | none => simp [hz]
  | some q => simp
theorem pos_some (k : Int) (l : List (Int × α)) : ∀ (i : Nat) (q : Nat × α), pos k l i = some q → ∃ j, q.1 = i + j ∧ l[j]? = some (k, q.2) ∧ (∀ v, upd k v l = l.set j (k, v)) ∧ del k l = l.eraseIdx j := by
  induction l with
  | nil => intro i q h; simp [pos] at h
  | cons p r ih =>
    intro i q h
    unfold pos at h
    by_cases hk : p.1 = k
    · simp only [hk, beq_self_eq_true, if_true, Option.some.injEq] at h
      subst h
      refine ⟨0, rfl, ?_, fun v => ?_, ?_⟩
      · show some p = _; rw [← hk]
      · unfold upd; simp [hk]
      · unfold del; simp [hk]
    · have hb : (p.1 == k) = false := by simpa using hk
      simp only [hb, Bool.false_eq_true, if_false] at h
      obtain ⟨j, h1, h2, h3⟩ := ih _ _ h
      refine ⟨j + 1, by omega, h2, fun v => ?_, ?_⟩
      · unfold upd
        simp [hb, h3.1 v]
      · unfold del
        simp [hb, h3.2]
theorem pos_none (k : Int) (l : List (Int × α)) : ∀ (i : Nat), pos k l i = none → (∀ v, upd k v l = l ++ [(k, v)]) ∧ del k l = l := by
  induction l with
  | nil => intro i h; simp [upd, del]
  | cons p r ih =>
    intro i h
    unfold pos at h
    by_cases hk : p.1 = k
    · simp [hk] at h
    · have hb : (p.1 == k) = false := by simpa using hk
      simp only [hb, Bool.false_eq_true, if_false] at h
      obtain ⟨e1, e2⟩ := ih _ h
      refine ⟨fun v => ?_, ?_⟩
      · unfold upd
        simp [hb, e1 v]
      · unfold del
        simp [hb, e2]
theorem block_far (h1 : ∃ es clock, w.heap[M]? = some (.map es clock)) (o : Obj) : Far (fun k => k = M) w (ChangeMaps.setBlock w M o) := by
  obtain ⟨es, clock, h1⟩ := h1
  exact ⟨rfl, rfl, rfl, by simp [ChangeMaps.setBlock], fun k _ hk => ChangeMaps.heap_setBlock_other h1 _ hk⟩
theorem Am.update (h : Am φ w M l) (t kt et : TypeId) (ht : P.underlying t = some (.map kt et)) (hk : P.underlying kt = some (.int .i64)) (k : Int) (v : α) :
    ∃ w', (Instr.mapUpdate t (.map (some M)) (.int .i64 k) (φ v)).run P w = .ok () w' ∧ Am φ w' M (upd k v l) ∧ Far (fun k => k = M) w w' := by
  obtain ⟨es, clock, h1, h2, h3⟩ := h
  have hkn := (keys_upd l k v h3).1
  unfold Instr.mapUpdate
  simp only [run_underlying ht, MapKept.run_getObj_map h1, run_check _ kt hk, run_findKey kt hk k es.toList h2, Sem.run_bind, Result.andThen_ok]
  have hl : es.size = l.length := by have := congrArg List.length h2; simpa [prs] using this
  cases hp : pos k l 0 with
  | none =>
    have e1 := (pos_none k l 0 hp).1 v
    refine ⟨_, MapKept.run_setObj_map _ h1, ⟨es.push { key := .int .i64 k, val := φ v, born := clock }, clock + 1, ?_, ?_, hkn⟩, block_far ⟨_, _, h1⟩ _⟩
    · exact ChangeMaps.heap_setBlock_same h1 _
    · rw [e1]
      unfold prs at h2 ⊢
      simp [h2]
  | some q =>
    obtain ⟨j, hj, hj2, hj3⟩ := pos_some k l 0 q hp
    have e1 := hj3.1 v
    have hjl : j < l.length := (List.getElem?_eq_some_iff.1 hj2).1
    have hje : j < es.size := by omega
    have hq : q.1 = j := by omega
    have hkey : (es[j]?.map (·.key)).getD (.int .i64 k) = .int .i64 k := by
      have := congrArg (fun x => x[j]?) h2
      simp only [List.getElem?_map, prs, hj2, Option.map_some, Array.getElem?_toList] at this
      cases he : es[j]? with
      | none => simp
      | some e => rw [he] at this; simp at this; simp [this.1]
    have hks : (Instr.keyThatStays (.int .i64 k) (.int .i64 k)).run P w = .ok (.int .i64 k) w := by
      unfold Instr.keyThatStays
      simp [Instr.sameBits]
    simp only [Option.map_some, hq, hkey, Sem.run_bind, hks, Result.andThen_ok]
    refine ⟨_, MapKept.run_setObj_map _ h1, ⟨es.modify j fun e => { e with key := .int .i64 k, val := φ v }, clock, ?_, ?_, hkn⟩, block_far ⟨_, _, h1⟩ _⟩
    · exact ChangeMaps.heap_setBlock_same h1 _
    · rw [e1]
      unfold prs at h2 ⊢
      apply List.ext_getElem?
      intro i
      have h2i := congrArg (fun x => x[i]?) h2
      simp only [List.getElem?_map, Array.getElem?_toList, Array.getElem?_modify, List.getElem?_set] at h2i ⊢
      by_cases hij : j = i
      · subst hij
        rw [if_pos rfl, if_pos rfl, if_pos hjl, Array.getElem?_eq_getElem hje]
        simp
      · rw [if_neg hij, if_neg hij, h2i]
theorem Am.drop (h : Am φ w M l) (t kt et ty : TypeId) (ht : P.underlying t = some (.map kt et)) (hk : P.underlying kt = some (.int .i64)) (k : Int) :
    ∃ w', (Builtin.delete_ #[t, kt] ty #[.map (some M), .int .i64 k]).run P w = .ok (.tuple #[]) w' ∧ Am φ w' M (del k l) ∧ Far (fun k => k = M) w w' := by
  obtain ⟨es, clock, h1, h2, h3⟩ := h
  have hkn := (keys_del l k h3).1
  unfold Builtin.delete_
  simp only [run_underlying ht, MapKept.run_getObj_map h1, run_check _ kt hk, run_findKey kt hk k es.toList h2, Sem.run_bind, Result.andThen_ok, List.getElem?_toArray, List.getElem?_cons_zero, List.getElem?_cons_succ]
  have hl : es.size = l.length := by have := congrArg List.length h2; simpa [prs] using this
  cases hp : pos k l 0 with
  | none =>
    have e2 := (pos_none k l 0 hp).2
    simp only [Option.map_none, Sem.run_bind, MapKept.run_setObj_map _ h1, Result.andThen_ok, Sem.run_pure]
    refine ⟨_, rfl, ⟨es, clock, ?_, ?_, hkn⟩, block_far ⟨_, _, h1⟩ _⟩
    · exact ChangeMaps.heap_setBlock_same h1 _
    · rw [e2, h2]
  | some q =>
    obtain ⟨j, hj, hj2, hj3⟩ := pos_some k l 0 q hp
    have e2 := hj3.2
    have hjl : j < l.length := (List.getElem?_eq_some_iff.1 hj2).1
    have hje : j < es.size := by omega
    have hq : q.1 = j := by omega
    simp only [Option.map_some, Sem.run_bind, MapKept.run_setObj_map _ h1, Result.andThen_ok, Sem.run_pure, hq]
    refine ⟨_, rfl, ⟨es.eraseIdxIfInBounds j, clock, ?_, ?_, hkn⟩, block_far ⟨_, _, h1⟩ _⟩
    · exact ChangeMaps.heap_setBlock_same h1 _
    · rw [e2]
      unfold prs at h2 ⊢
      rw [Array.eraseIdxIfInBounds_eq, dif_pos hje, Array.toList_eraseIdx, ChangeMaps.map_eraseIdx, h2, ChangeMaps.map_eraseIdx]
theorem Am.clear (h : Am φ w M l) (t kt et ty : TypeId) (ht : P.underlying t = some (.map kt et)) :
    ∃ w', (Builtin.clear_ #[t] ty #[.map (some M)]).run P w = .ok (.tuple #[]) w' ∧ Am φ w' M [] ∧ Far (fun k => k = M) w w' := by
  obtain ⟨es, clock, h1, h2, h3⟩ := h
  unfold Builtin.clear_
  simp only [run_underlying ht, MapKept.run_getObj_map h1, Sem.run_bind, Sem.run_pure, Result.andThen_ok, List.getElem?_toArray, List.getElem?_cons_zero, MapKept.run_setObj_map _ h1]
  exact ⟨_, rfl, ⟨#[], clock, ChangeMaps.heap_setBlock_same h1 _, rfl, by simp⟩, block_far ⟨_, _, h1⟩ _⟩
theorem Am.drop_ (h : Am φ w M l) (t kt et : TypeId) (ht : P.underlying t = some (.map kt et)) (hk : P.underlying kt = some (.int .i64)) (k : Int) :
    ∃ w', (∀ ty, (Builtin.delete_ #[t, kt] ty #[.map (some M), .int .i64 k]).run P w = .ok (.tuple #[]) w') ∧ Am φ w' M (del k l) ∧ Far (fun k => k = M) w w' := by
  obtain ⟨w', h1, h2⟩ := h.drop (P := P) t kt et 0 ht hk k
  exact ⟨w', fun ty => h1, h2⟩
theorem Am.clear_ (h : Am φ w M l) (t kt et : TypeId) (ht : P.underlying t = some (.map kt et)) :
    ∃ w', (∀ ty, (Builtin.clear_ #[t] ty #[.map (some M)]).run P w = .ok (.tuple #[]) w') ∧ Am φ w' M [] ∧ Far (fun k => k = M) w w' := by
  obtain ⟨w', h1, h2⟩ := h.clear (P := P) t kt et 0 ht
  exact ⟨w', fun ty => h1, h2⟩
/-! ### A map of the keys 0, 1, .., laid in this order, and gone through. -/
def rows (f : Nat → α) (N : Nat) : List (Int × α) := (List.range N).map fun (k : Nat) => ((k : Int), f k)
theorem get_rows (f : Nat → α) (N : Nat) (x : Int) : get (rows f N) x = if 0 ≤ x ∧ x < N then some (f x.toNat) else none := by
  have h1 : ∀ (l : List (Int × α)) (p : Int × α), get (l ++ [p]) x = ((get l x).or (if p.1 = x then some p.2 else none)) := by
    intro l p
    induction l with
    | nil => simp [get_cons, get_nil]
    | cons q r ih =>
      rw [List.cons_append, get_cons, get_cons, ih]
      by_cases h : q.1 = x <;> simp [h]
  induction N with
  | zero => rw [if_neg (by omega)]; exact get_nil x
  | succ N ih =>
    unfold rows at ih ⊢
    rw [List.range_succ, List.map_append, List.map_singleton, h1, ih]
    by_cases h : 0 ≤ x ∧ x < N
    · have h2 : ¬ (N : Int) = x := by omega
      have h3 : 0 ≤ x ∧ x < ((N + 1 : Nat) : Int) := by omega
      simp only [if_pos h, if_neg h2, if_pos h3, Option.or_none]
    · by_cases hx : (N : Int) = x
      · subst hx
        have h3 : 0 ≤ (N : Int) ∧ (N : Int) < ((N + 1 : Nat) : Int) := by omega
        rw [if_neg h, if_pos h3, if_pos rfl]
        simp
      · have h3 : ¬ (0 ≤ x ∧ x < ((N + 1 : Nat) : Int)) := by omega
        rw [if_neg h, if_neg h3]
        simp [hx]
def ents (φ : α → Value) (f : Nat → α) (N : Nat) : Array MapEntry := ((List.range N).map fun (k : Nat) => ({ key := .int .i64 (k : Int), val := φ (f k), born := k } : MapEntry)).toArray
def Lm (φ : α → Value) (w : World) (M : Nat) (f : Nat → α) (N : Nat) : Prop := w.heap[M]? = some (.map (ents φ f N) N)
theorem Lm.far {S : Nat → Prop} {f : Nat → α} {N : Nat} (h : Lm φ w M f N) (hf : Far S w w') (hM : ¬ S M) : Lm φ w' M f N := (hf.block M (lt_of_blk h) hM).trans h
theorem Lm.am {f : Nat → α} {N : Nat} (h : Lm φ w M f N) : Am φ w M (rows f N) := by
  refine ⟨_, _, h, ?_, ?_⟩
  · simp [ents, prs, rows, Function.comp_def]
  · unfold rows
    rw [List.map_map]
    exact List.pairwise_map.2 (List.nodup_range.imp (fun {a b} h e => h (by have e : (a : Int) = (b : Int) := e; omega)))
theorem Lm.made (w : World) (f : Nat → α) : Lm φ (w.alloc (.map #[] 0)) w.heap.size f 0 := (MapKept.heap_alloc w _).1
theorem Lm.push {f : Nat → α} {N : Nat} (h : Lm φ w M f N) (t kt et : TypeId) (ht : P.underlying t = some (.map kt et)) (hk : P.underlying kt = some (.int .i64)) :
    ∃ w', (Instr.mapUpdate t (.map (some M)) (.int .i64 (N : Int)) (φ (f N))).run P w = .ok () w' ∧ Lm φ w' M f (N + 1) ∧ Far (fun k => k = M) w w' := by
  have hp : pos (N : Int) (rows f N) 0 = none := by
    have := get_rows f N (N : Int)
    rw [if_neg (by omega)] at this
    unfold get at this
    cases hq : pos (N : Int) (rows f N) 0 with
    | none => rfl
    | some q => rw [hq] at this; cases this
  have h2 : (ents φ f N).toList.map (fun e => (e.key, e.val)) = prs φ (rows f N) := by simp [ents, prs, rows, Function.comp_def]
  have h1 : w.heap[M]? = some (.map (ents φ f N) N) := h
  unfold Instr.mapUpdate
  simp only [run_underlying ht, MapKept.run_getObj_map h1, run_check _ kt hk, run_findKey kt hk _ _ h2, hp, Option.map_none, Sem.run_bind, Result.andThen_ok]
  refine ⟨_, MapKept.run_setObj_map _ h1, ?_, block_far ⟨_, _, h1⟩ _⟩
  have he : ents φ f (N + 1) = (ents φ f N).push { key := .int .i64 (N : Int), val := φ (f N), born := N } := by
    unfold ents
    rw [List.range_succ, List.map_append, List.map_singleton]
    simp
  unfold Lm
  rw [he]
  exact ChangeMaps.heap_setBlock_same h1 _
/-- A loop over it under way: what has been seen. -/
def It (w : World) (M r N : Nat) (S : List Nat) : Prop := w.heap[r]? = some (.mapIter (some M) N S.toArray N)
theorem It.far {S : Nat → Prop} {r N : Nat} {l : List Nat} (h : It w M r N l) (hf : Far S w w') (hr : ¬ S r) : It w' M r N l := (hf.block r (lt_of_blk h) hr).trans h
theorem ents_mem {f : Nat → α} {N : Nat} {e : MapEntry} (h : e ∈ (ents φ f N).toList) : ∃ k, k < N ∧ e = { key := .int .i64 (k : Int), val := φ (f k), born := k } := by
  unfold ents at h
  obtain ⟨k, hk, rfl⟩ := List.mem_map.1 h
  exact ⟨k, by simpa using hk, rfl⟩
theorem mem_ents (φ : α → Value) (f : Nat → α) {N k : Nat} (h : k < N) : ({ key := .int .i64 (k : Int), val := φ (f k), born := k } : MapEntry) ∈ (ents φ f N).toList := by
  unfold ents
  exact List.mem_map.2 ⟨k, by simpa using h, rfl⟩
theorem Lm.range {f : Nat → α} {N : Nat} (h : Lm φ w M f N) (t kt et : TypeId) (ht : P.underlying t = some (.map kt et)) :
    (Instr.range t (.map (some M))).run P w = .ok (.pointer (some ⟨w.heap.size, 0, none⟩)) (w.alloc (.mapIter (some M) N #[] N)) := run_range_map w t kt et M _ _ ht h
theorem It.start (w : World) (M N : Nat) : It (w.alloc (.mapIter (some M) N #[] N)) M w.heap.size N [] := (MapKept.heap_alloc w _).1
theorem Lm.next {f : Nat → α} {N r : Nat} {S : List Nat} (h : Lm φ w M f N) (hi : It w M r N S) (ty : TypeId) :
    ((∀ k, k < N → k ∈ S) ∧ (Instr.next (.pointer (some ⟨r, 0, none⟩)) false ty).run P w = .ok (.tuple #[.bool false]) w) ∨
    ∃ k w2, k < N ∧ k ∉ S ∧ (Instr.next (.pointer (some ⟨r, 0, none⟩)) false ty).run P w = .ok (.tuple #[.bool true, .int .i64 (k : Int), φ (f k)]) w2 ∧ It w2 M r N (S ++ [k]) ∧ Lm φ w2 M f N ∧ Far (fun j => j = r) w w2 ∧
      (Instr.entry (.pointer (some ⟨r, 0, none⟩))).run P w2 = .ok (.tuple #[.int .i64 (k : Int), φ (f k)]) w2 := by
  have hne : r ≠ M := by
    rintro rfl
    unfold It at hi
    unfold Lm at h
    rw [h] at hi
    cases hi
  have hold : ∀ x ∈ (ents φ f N).toList, x.born < N := fun x hx => by obtain ⟨k, hk, rfl⟩ := ents_mem hx; exact hk
  rcases run_next_at (P := P) w ty r M N N S.toArray (ents φ f N) N hi h hold (Nat.le_refl _) with ⟨h0, hrun⟩ | ⟨e, he, w1, hal, hrun⟩
  · refine .inl ⟨fun k hk => ?_, hrun⟩
    have := all_seen (ents φ f N) S.toArray h0 _ (mem_ents φ f hk)
    simpa using this
  · obtain ⟨hem, hes⟩ := mem_left he
    obtain ⟨k, hk, rfl⟩ := ents_mem hem
    have hr1 : w1.heap[r]? = some (.mapIter (some M) N S.toArray N) := by rcases hal with rfl | rfl <;> exact hi
    have hb1 : w1.heap[M]? = some (.map (ents φ f N) N) := by rcases hal with rfl | rfl <;> exact h
    have hset := MapKept.heap_set (o' := Obj.mapIter (some M) N (S.toArray.push k) N) hr1
    have hb' := (hset.2 M (fun e1 => hne e1.symm)).trans hb1
    have hnd : ((ents φ f N).toList.map (·.born)).Nodup := by
      unfold ents
      rw [List.map_map]
      have : (MapEntry.born ∘ fun k : Nat => ({ key := .int .i64 (k : Int), val := φ (f k), born := k } : MapEntry)) = id := rfl
      rw [this, List.map_id]
      exact List.nodup_range
    refine .inr ⟨k, _, hk, by simpa using hes, hrun, ?_, hb', ?_, run_entry_at _ r M N S.toArray (ents φ f N) N _ hset.1 hb' hem hnd⟩
    · have h2 := hset.1
      unfold It
      show (w1.heap.setIfInBounds r (Obj.mapIter (some M) N (S.toArray.push k) N))[r]? = _
      rw [h2, List.push_toArray]
    · rcases hal with rfl | rfl <;> exact ⟨rfl, rfl, rfl, by simp [ChangeMaps.setBlock], fun i _ hi => hset.2 i (fun e1 => hi (by rw [e1]))⟩
theorem Lm.next_ {f : Nat → α} {N r : Nat} {S : List Nat} (h : Lm φ w M f N) (hi : It w M r N S) :
    ((∀ k, k < N → k ∈ S) ∧ ∀ ty, (Instr.next (.pointer (some ⟨r, 0, none⟩)) false ty).run P w = .ok (.tuple #[.bool false]) w) ∨
    ∃ k w2, k < N ∧ k ∉ S ∧ (∀ ty, (Instr.next (.pointer (some ⟨r, 0, none⟩)) false ty).run P w = .ok (.tuple #[.bool true, .int .i64 (k : Int), φ (f k)]) w2) ∧ It w2 M r N (S ++ [k]) ∧ Lm φ w2 M f N ∧ Far (fun j => j = r) w w2 ∧
      (Instr.entry (.pointer (some ⟨r, 0, none⟩))).run P w2 = .ok (.tuple #[.int .i64 (k : Int), φ (f k)]) w2 := by
  rcases h.next (P := P) hi 0 with ⟨h1, h2⟩ | ⟨k, w2, h1, h2, h3, h4⟩
  · exact .inl ⟨h1, fun ty => h2⟩
  · exact .inr ⟨k, w2, h1, h2, fun ty => h3, h4⟩
/-- How many have not been seen. -/
def cnt (N : Nat) (S : List Nat) : Nat := ((List.range N).filter fun k => !S.contains k).length
theorem cnt_less {N k : Nat} {S : List Nat} (hk : k < N) (hs : k ∉ S) : cnt N (S ++ [k]) < cnt N S := by
  unfold cnt
  have e : (List.range N).filter (fun j => !(S ++ [k]).contains j) = ((List.range N).filter fun j => !S.contains j).filter (fun j => j != k) := by
    rw [List.filter_filter]
    refine List.filter_congr fun j _ => ?_
    rw [Bool.eq_iff_iff]
    simp
    constructor
    · rintro ⟨h1, h2⟩; exact ⟨h2, h1⟩
    · rintro ⟨h1, h2⟩; exact ⟨h2, h1⟩
  rw [e]
  exact List.length_filter_lt_length_iff_exists.2 ⟨k, List.mem_filter.2 ⟨by simpa using hk, by simpa using hs⟩, by simp⟩
end
end Mp
end Go.Proofs.YtbniijmabebhoaaDoor
