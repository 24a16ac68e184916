/- A region that draws its order, by an invariant: each operation is shown once, whatever has come up before it. -/
import Derived.Orders
import Derived.WalkKit
import Derived.Below
namespace Go.Proofs.Ytlbnikmaafccnaa
open Go.RowKit
set_option linter.unusedVariables false
namespace Dr
/-- Every slot is written once, and lies in the frame; every operation waits for earlier ones alone. -/
def fine (ops : Array Oper) (n : Nat) : Bool :=
  (List.range ops.size).all fun i =>
    ((ops[i]?).bind (·.dst)).all (fun d => decide (d < n)) &&
    ((ops[i]?).map (fun o => o.after.all fun e => decide (e.on < i))).getD true &&
    (List.range ops.size).all fun j => i == j || ((ops[i]?).bind (·.dst)) == none || ((ops[i]?).bind (·.dst)) != ((ops[j]?).bind (·.dst))
structure Inv (ops : Array Oper) (ok : Nat → Value → World → Prop) (G : World → Prop) (a0 : Act) (listed : Array Bool) (a : Act) (w : World) : Prop where
  defers : a.defers = a0.defers
  size : a.tmps.size = a0.tmps.size
  rest : ∀ t : Nat, (∀ (i : Nat) (o : Oper), ops[i]? = some o → o.dst ≠ some t) → a.tmps[t]? = a0.tmps[t]?
  done : ∀ (i : Nat) (o : Oper) (d : Nat), ops[i]? = some o → o.dst = some d → listed.getD i false = true → ∃ v, a.tmps[d]? = some v ∧ ok i v w
  g : G w
/-- What is known where an operation comes up: whatever it waits for has come up. -/
structure Pre (ops : Array Oper) (ok : Nat → Value → World → Prop) (G : World → Prop) (a0 : Act) (o : Oper) (a : Act) (w : World) : Prop where
  rest : ∀ t : Nat, (∀ (i : Nat) (o : Oper), ops[i]? = some o → o.dst ≠ some t) → a.tmps[t]? = a0.tmps[t]?
  done : ∀ (i : Nat) (oi : Oper) (d : Nat), ops[i]? = some oi → oi.dst = some d → (∃ e ∈ o.after, Region.binds .any e = true ∧ e.on = i) → ∃ v, a.tmps[d]? = some v ∧ ok i v w
  g : G w
theorem Pre.got {ops : Array Oper} {ok : Nat → Value → World → Prop} {G : World → Prop} {a0 a : Act} {o : Oper} {w : World} (h : Pre ops ok G a0 o a w) (i d : Nat) (hi : (ops[i]?).bind (·.dst) = some d) (he : (o.after.any fun e => Region.binds .any e && e.on == i) = true) : ∃ v, a.tmps[d]? = some v ∧ ok i v w := by
  cases ho : ops[i]? with
  | none => rw [ho] at hi; cases hi
  | some oi =>
    rw [ho] at hi
    obtain ⟨k, hk, h2⟩ := Array.any_eq_true.1 he
    simp only [Bool.and_eq_true, beq_iff_eq] at h2
    exact h.done i oi d ho hi ⟨o.after[k], Array.getElem_mem hk, h2.1, h2.2⟩
theorem Pre.keep {ops : Array Oper} {ok : Nat → Value → World → Prop} {G : World → Prop} {a0 a : Act} {o : Oper} {w : World} (h : Pre ops ok G a0 o a w) (t : Nat) {v : Value} (ht : (ops.all fun o => o.dst != some t) = true) (hv : a0.tmps[t]? = some v) : a.tmps[t]? = some v := by
  rw [h.rest t (fun i o ho e => ?_)]
  · exact hv
  · obtain ⟨hi, rfl⟩ := Array.getElem?_eq_some_iff.1 ho
    have := Array.all_eq_true.1 ht i hi
    rw [e] at this
    simp at this
section
variable {P : Program} {ops : Array Oper} {Q : Exit → Act → World → Prop} {ok : Nat → Value → World → Prop} {G : World → Prop} {Ext : World → World → Prop} {a0 : Act}
def un (ops : Array Oper) (listed : Array Bool) : Nat := ((List.range ops.size).filter fun i => !listed.getD i true).length
theorem un_set {listed : Array Bool} {i : Nat} (hi : i < ops.size) (hl : listed.getD i true = false) : un ops (listed.setIfInBounds i true) < un ops listed := by
  have hlt : i < listed.size := by
    rcases Nat.lt_or_ge i listed.size with h | h
    · exact h
    · simp [Array.getD, Nat.not_lt.2 h] at hl
  have e : (List.range ops.size).filter (fun j => !(listed.setIfInBounds i true).getD j true) = ((List.range ops.size).filter fun j => !listed.getD j true).filter (fun j => j != i) := by
    rw [List.filter_filter]
    refine List.filter_congr fun j _ => ?_
    by_cases hji : j = i
    · subst hji; simp [Array.getD, hlt]
    · have : (listed.setIfInBounds i true).getD j true = listed.getD j true := by
        simp only [Array.getD_eq_getD_getElem?]
        rw [Array.getElem?_setIfInBounds_ne (Ne.symm hji)]
      rw [this]
      simp [hji]
  unfold un
  rw [e]
  exact List.length_filter_lt_length_iff_exists.2 ⟨i, List.mem_filter.2 ⟨by simpa using hi, by rw [hl]; rfl⟩, by simp⟩
theorem any_of_inv (hf : fine ops a0.tmps.size = true)
    (hmono : ∀ i v w w', ok i v w → Ext w w' → ok i v w')
    (hstep : ∀ (i : Nat) (o : Oper), ops[i]? = some o → ∀ (a : Act) (w : World), Pre ops ok G a0 o a w → ∀ K : Act → World → Prop, (∀ v w', ok i v w' → G w' → Ext w w' → K (a.put o.dst v) w') → wpOp P ops Q i K a w)
    (hdone : ∀ (a : Act) (w : World), a.defers = a0.defers → a.tmps.size = a0.tmps.size → (∀ t : Nat, (∀ (i : Nat) (o : Oper), ops[i]? = some o → o.dst ≠ some t) → a.tmps[t]? = a0.tmps[t]?) → (∀ (i : Nat) (o : Oper) (d : Nat), ops[i]? = some o → o.dst = some d → ∃ v, a.tmps[d]? = some v ∧ ok i v w) → G w → Q .normal a w) :
    ∀ (fuel : Nat) (listed : Array Bool) (a : Act) (w : World), un ops listed ≤ fuel → listed.size = ops.size → Inv ops ok G a0 listed a w → wpAny P .any ops Q fuel listed a w := by
  have f1 : ∀ (i : Nat) (o : Oper) (d : Nat), ops[i]? = some o → o.dst = some d → d < a0.tmps.size := fun i o d h1 h2 => by
    have hi : i < ops.size := (Array.getElem?_eq_some_iff.1 h1).1
    have := List.all_eq_true.1 hf i (by simpa using hi)
    simp only [Bool.and_eq_true] at this
    have := this.1.1
    rw [h1] at this
    simpa [h2] using this
  have f2 : ∀ (i : Nat) (o : Oper) (e : Edge), ops[i]? = some o → e ∈ o.after → e.on < i := fun i o e h1 h2 => by
    have hi : i < ops.size := (Array.getElem?_eq_some_iff.1 h1).1
    have := List.all_eq_true.1 hf i (by simpa using hi)
    simp only [Bool.and_eq_true] at this
    have := this.1.2
    rw [h1] at this
    simp only [Option.map_some, Option.getD_some] at this
    obtain ⟨k, hk, rfl⟩ := Array.mem_iff_getElem.1 h2
    have := Array.all_eq_true.1 this k hk
    simpa using this
  have f3 : ∀ (i j : Nat) (o o' : Oper) (d : Nat), ops[i]? = some o → ops[j]? = some o' → o.dst = some d → o'.dst = some d → i = j := fun i j o o' d h1 h2 h3 h4 => by
    have hi : i < ops.size := (Array.getElem?_eq_some_iff.1 h1).1
    have hj : j < ops.size := (Array.getElem?_eq_some_iff.1 h2).1
    have := List.all_eq_true.1 hf i (by simpa using hi)
    simp only [Bool.and_eq_true] at this
    have := List.all_eq_true.1 this.2 j (by simpa using hj)
    rw [h1, h2] at this
    simpa [h3, h4] using this
  have hfin : ∀ (listed : Array Bool) (a : Act) (w : World), listed.size = ops.size → Inv ops ok G a0 listed a w → Region.ready .any ops listed = [] → Q .normal a w := fun listed a w hs hI hr => by
    have all : ∀ n i, i < n → i < ops.size → listed.getD i true = true := by
      intro n
      induction n with
      | zero => intro i h _; omega
      | succ n ih =>
        intro i hin hi
        cases hl : listed.getD i true with
        | true => rfl
        | false =>
          have hm : i ∈ Region.ready .any ops listed := by
            unfold Region.ready
            refine List.mem_filter.2 ⟨by simpa using hi, ?_⟩
            rw [hl]
            have ho : ops[i]? = some ops[i] := Array.getElem?_eq_getElem hi
            rw [ho]
            simp only [Bool.not_false, Bool.true_and, Option.map_some, Option.getD_some]
            refine Array.all_eq_true.2 fun k hk => ?_
            have hon := f2 i _ _ ho (Array.getElem_mem hk)
            have h1 := ih (ops[i].after[k]).on (by omega) (by omega)
            have h2 : listed.getD (ops[i].after[k]).on false = true := by
              have hlt : (ops[i].after[k]).on < listed.size := by omega
              simpa [Array.getD, hlt] using h1
            rw [h2]
            simp
          rw [hr] at hm
          cases hm
    refine hdone a w hI.defers hI.size hI.rest (fun i o d h1 h2 => hI.done i o d h1 h2 ?_) hI.g
    have hi : i < ops.size := (Array.getElem?_eq_some_iff.1 h1).1
    have h1 := all (i + 1) i (by omega) hi
    have hlt : i < listed.size := by omega
    simpa [Array.getD, hlt] using h1
  intro fuel
  induction fuel with
  | zero =>
    intro listed a w hu hs hI
    have hr : Region.ready .any ops listed = [] := by
      refine List.eq_nil_iff_forall_not_mem.2 fun i hm => ?_
      unfold Region.ready at hm
      obtain ⟨h1, h2⟩ := List.mem_filter.1 hm
      simp only [Bool.and_eq_true] at h2
      have : i ∈ (List.range ops.size).filter fun i => !listed.getD i true := List.mem_filter.2 ⟨h1, h2.1⟩
      have := List.length_pos_of_mem this
      unfold un at hu
      omega
    exact ⟨hr, hfin listed a w hs hI hr⟩
  | succ fuel ih =>
    intro listed a w hu hs hI
    refine ⟨fun hr => hfin listed a w hs hI hr, fun i hm => ?_⟩
    unfold Region.ready at hm
    obtain ⟨h1, h2⟩ := List.mem_filter.1 hm
    simp only [Bool.and_eq_true, Bool.not_eq_true'] at h2
    have hi : i < ops.size := by simpa using h1
    have ho : ops[i]? = some ops[i] := Array.getElem?_eq_getElem hi
    obtain ⟨h2, h3⟩ := h2
    rw [ho] at h3
    simp only [Option.map_some, Option.getD_some] at h3
    have hilt : i < listed.size := by omega
    refine hstep i ops[i] ho a w ⟨hI.rest, fun j oj d hj hd hx => hI.done j oj d hj hd ?_, hI.g⟩ _ (fun v w' hok hG hE => ?_)
    · obtain ⟨e, he, hb, hon⟩ := hx
      obtain ⟨k, hk, hke⟩ := Array.mem_iff_getElem.1 he
      have := Array.all_eq_true.1 h3 k hk
      rw [hke, hb, hon] at this
      simpa using this
    · refine ih _ _ _ ?_ (by simpa using hs) ⟨?_, ?_, ?_, ?_, hG⟩
      · have := un_set (ops := ops) hi h2
        omega
      · rw [← hI.defers]
        cases hd : ops[i].dst <;> rfl
      · rw [← hI.size]
        cases hd : ops[i].dst <;> simp [Act.put]
      · intro t ht
        rw [← hI.rest t ht]
        cases hd : ops[i].dst with
        | none => rfl
        | some d =>
          have : d ≠ t := fun e => ht i _ ho (by rw [hd, e])
          show (a.tmps.setIfInBounds d v)[t]? = _
          rw [Array.getElem?_setIfInBounds_ne this]
      · intro j oj d hj hd hl
        by_cases hji : j = i
        · subst hji
          rw [ho] at hj
          cases hj
          refine ⟨v, ?_, hok⟩
          rw [hd]
          show (a.tmps.setIfInBounds d v)[d]? = _
          rw [Array.getElem?_setIfInBounds_self_of_lt]
          rw [hI.size]
          exact f1 j _ d ho hd
        · have hl' : listed.getD j false = true := by
            simp only [Array.getD_eq_getD_getElem?] at hl ⊢
            rwa [Array.getElem?_setIfInBounds_ne (Ne.symm hji)] at hl
          obtain ⟨u, hu1, hu2⟩ := hI.done j oj d hj hd hl'
          refine ⟨u, ?_, hmono _ _ _ _ hu2 hE⟩
          cases hdi : ops[i].dst with
          | none => exact hu1
          | some d' =>
            have : d' ≠ d := fun e => hji (f3 j i oj ops[i] d hj ho hd (by rw [hdi, e]))
            show (a.tmps.setIfInBounds d' v)[d]? = _
            rw [Array.getElem?_setIfInBounds_ne this, hu1]
/-- **The region.** -/
theorem region {id : Nat} {w : World} (hm : P.follows .mixedOrders = true) (hf : fine ops a0.tmps.size = true) (ok : Nat → Value → World → Prop) (G : World → Prop) (Ext : World → World → Prop)
    (hmono : ∀ i v w w', ok i v w → Ext w w' → ok i v w') (h0 : G w.drew)
    (hstep : ∀ (i : Nat) (o : Oper), ops[i]? = some o → ∀ (a : Act) (w : World), Pre ops ok G a0 o a w → ∀ K : Act → World → Prop, (∀ v w', ok i v w' → G w' → Ext w w' → K (a.put o.dst v) w') → wpOp P ops Q i K a w)
    (hdone : ∀ (a : Act) (w : World), a.defers = a0.defers → a.tmps.size = a0.tmps.size → (∀ t : Nat, (∀ (i : Nat) (o : Oper), ops[i]? = some o → o.dst ≠ some t) → a.tmps[t]? = a0.tmps[t]?) → (∀ (i : Nat) (o : Oper) (d : Nat), ops[i]? = some o → o.dst = some d → ∃ v, a.tmps[d]? = some v ∧ ok i v w) → G w → Q .normal a w) :
    (Code.region id ops true).wp P Q a0 w := by
  refine wp_region_any hm (any_of_inv hf hmono hstep hdone _ _ _ _ ?_ (by simp) ⟨rfl, rfl, fun _ _ => rfl, fun i o d h1 h2 h3 => ?_, h0⟩)
  · unfold un
    exact Nat.le_trans (List.length_filter_le _ _) (by simp)
  · have hi : i < ops.size := (Array.getElem?_eq_some_iff.1 h1).1
    simp [Array.getD, hi] at h3
/-- What was there, is. -/
def Kept (W W' : World) : Prop := ∀ (g : Nat) (o : Obj), W.heap[g]? = some o → W'.heap[g]? = some o
theorem lt_heap {W : World} {g : Nat} {o : Obj} (h : W.heap[g]? = some o) : g < W.heap.size := by
  rcases Nat.lt_or_ge g W.heap.size with h0 | h0
  · exact h0
  · rw [Array.getElem?_eq_none h0] at h; cases h
theorem Kept.refl (W : World) : Kept W W := fun _ _ h => h
theorem Kept.of {W W' : World} (h : Below W.heap.size W W') : Kept W W' := fun g o hg => (h.block g (lt_heap hg)).trans hg
theorem Kept.alloc (W : World) (o : Obj) : Kept W (W.alloc o) := fun g x hg => (Below.heap_alloc _ _ _ (lt_heap hg)).trans hg
/-- What an operation's value is good for: kept as the world grows. -/
structure Sp where
  ok : Value → World → Prop
  kept : ∀ v w w', ok v w → Kept w w' → ok v w'
def Sp.eq (x : Value) : Sp := ⟨fun v _ => v = x, fun _ _ _ h _ => h⟩
/-- A new block of these cells, as a slice. -/
def Sp.row (cs : Array Value) (t n c : Nat) : Sp := ⟨fun v w => ∃ g, v = .slice (some ⟨g, 0, none⟩) n c ∧ w.heap[g]? = some (.cells cs t (0, 0)), fun _ _ _ ⟨g, h1, h2⟩ hk => ⟨g, h1, hk g _ h2⟩⟩
def okL (l : List Sp) (i : Nat) (v : Value) (w : World) : Prop := (l[i]?.map fun s => s.ok v w).getD True
theorem okL_kept (l : List Sp) : ∀ i v w w', okL l i v w → Kept w w' → okL l i v w' := by
  intro i v w w' h hk
  unfold okL at h ⊢
  cases hl : l[i]? with
  | none => simp
  | some s =>
    rw [hl] at h
    exact s.kept v w w' h hk
theorem regionL {id : Nat} {w : World} (hm : P.follows .mixedOrders = true) (hf : fine ops a0.tmps.size = true) (l : List Sp) (G : World → Prop) (h0 : G w.drew)
    (hstep : ∀ (i : Nat) (o : Oper), ops[i]? = some o → ∀ (a : Act) (w : World), Pre ops (okL l) G a0 o a w → ∀ K : Act → World → Prop, (∀ v w', okL l i v w' → G w' → Kept w w' → K (a.put o.dst v) w') → wpOp P ops Q i K a w)
    (hdone : ∀ (a : Act) (w : World), a.defers = a0.defers → a.tmps.size = a0.tmps.size → (∀ t : Nat, (∀ (i : Nat) (o : Oper), ops[i]? = some o → o.dst ≠ some t) → a.tmps[t]? = a0.tmps[t]?) → (∀ (i : Nat) (o : Oper) (d : Nat), ops[i]? = some o → o.dst = some d → ∃ v, a.tmps[d]? = some v ∧ okL l i v w) → G w → Q .normal a w) :
    (Code.region id ops true).wp P Q a0 w := region hm hf (okL l) G Kept (okL_kept l) h0 hstep hdone
/-! ### One operation. -/
variable {i : Nat} {o : Oper} {a : Act} {w w' : World} {K : Act → World → Prop} {v : Value}
theorem op_value (hi : ops[i]? = some o) (hg : Region.wanted o (yielded ops a.tmps) = true) (hr : (execOp a.eval o).run P w = .ok (.value v) w') (h : K (a.put o.dst v) w') : wpOp P ops Q i K a w := by
  unfold wpOp
  rw [hi]
  simp only [hg, if_true]
  refine .inl ?_
  unfold Oper.wp
  rw [hr]
  exact h
theorem op_call {f : FuncId} {args : Array Value} (hi : ops[i]? = some o) (hg : Region.wanted o (yielded ops a.tmps) = true) (hr : (execOp a.eval o).run P w = .ok (.enter f args) w') (h : Calls P f args w' fun e w'' => ∃ v, e = .returned v ∧ K (a.put o.dst v) w'') : wpOp P ops Q i K a w := by
  unfold wpOp
  rw [hi]
  simp only [hg, if_true]
  refine .inl ?_
  unfold Oper.wp
  rw [hr]
  refine Calls.mono h fun e w'' he => ?_
  obtain ⟨v, rfl, hk⟩ := he
  exact hk
theorem op_not (hi : ops[i]? = some o) (hg : Region.wanted o (yielded ops a.tmps) = false) (h : K (a.put o.dst undef) w) : wpOp P ops Q i K a w := by
  unfold wpOp
  rw [hi]
  simp only [hg]
  exact h
theorem wanted_none (ho : o.guard = none) : Region.wanted o (yielded ops a.tmps) = true := by
  unfold Region.wanted
  rw [ho]
theorem wanted_yes (g d : Nat) (b : Bool) (ho : o.guard = some (g, b)) (h1 : (ops[g]?).bind (·.dst) = some d) (h3 : a.tmps[d]? = some (.bool b)) : Region.wanted o (yielded ops a.tmps) = true := by
  unfold Region.wanted yielded
  rw [ho]
  simp [h1, h3]
theorem wanted_no (g d : Nat) (b : Bool) (ho : o.guard = some (g, b)) (h1 : (ops[g]?).bind (·.dst) = some d) (h3 : a.tmps[d]? = some (.bool (!b))) : Region.wanted o (yielded ops a.tmps) = false := by
  unfold Region.wanted yielded
  rw [ho]
  cases b <;> simp [h1, h3]
end
end Dr
end Go.Proofs.Ytlbnikmaafccnaa
