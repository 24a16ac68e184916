/- WiresTrack: what is handed on at once is at a node as many ticks later as that is far. Laid: rings.signs. -/
import Derived.Test.YtbniijmabebhoaaDoorCards
import Derived.Test.YtbniijmabebhoaaDoorTie
import Derived.Test.YtbniijmabebhoaaDoorWTrackWalk
import Derived.WalkKit
import Derived.ProofKit
import Derived.OpenShut
import Derived.ShutString
import Derived.ChangeOld
import Derived.Below
import Derived.Deep.DeepHandedRow
import Derived.Lib.LaidTab
namespace Go.Proofs.YtbniijmabebhoaaDoor
open Go.ChangeShapes Go.WideShapes Go.ChangeAt Go.RowKit
set_option linter.unusedVariables false
namespace WiresTrackRow
theorem own : ownKnob Tryd.prog.godebug = none := by kernel_rfl
theorem laidOut : laidOutB Tryd.prog = true := by kernel_rfl
theorem gTab : Tryd.prog.globalNamed "sennit/rings.signs" = some 0 := by kernel_rfl
theorem gTabType : (Tryd.prog.globals[0]?).map (·.type) = some 56 := by kernel_rfl
theorem cells56 : Tryd.prog.cellsOf 56 = 2 := by kernel_rfl
theorem cells3 : Tryd.prog.cellsOf 3 = 1 := by kernel_rfl
theorem table {W : World} (h : laidMetH Tryd.prog Rows.wiresTrackRow.laid W) : Lib.TabIs Tryd.prog W "sennit/rings.signs" .i64 [1, -1] :=
  Lib.tabIs_of_head (rest := []) gTab gTabType Tryd.underlying56 Tryd.underlying3 cells3 cells56 h
set_option maxRecDepth 100000 in
theorem contract (H : Type) (enc : TypeId × Value → H) (W : World) (base : Nat) (args : Array Value) (ds gs : List (DataW H)) (before : List MemPlace)
    (hval0 : ∀ (j : Nat) t v, Tryd.f12.params[j]? = some t → args[j]? = some v → Value.okWide Tryd.prog W .any base t v)
    (hW : DataW.Whole enc Tryd.prog Tryd.f12.params.toList Rows.wiresTrackSpec.vars false W args.toList ds gs before) (hL : laidMetH Tryd.prog Rows.wiresTrackRow.laid W) :
    Calls Tryd.prog 12 args W fun e W' => ∃ v, e = .returned v ∧ Rows.wiresTrackSpec.post enc Tryd.prog Tryd.f12 false true false false W args v W' := by
  have hval : ∀ (j : Nat) t v, Tryd.f12.params[j]? = some t → args[j]? = some v → Value.okWide Tryd.prog W .any base t v := hval0
  have hW' := hW
  obtain ⟨p, q, hA0, hV, rfl, hfz, hnd⟩ := hW
  have hA : DataW.TrodAll enc Tryd.prog W 0 (fun _ => true) true Tryd.f12.params.toList args.toList ds p := hA0
  rw [Tryd.params12] at hA hval
  obtain ⟨v0, vs0, d0, ds0, p0, q0, hargs, rfl, rfl, h0, r0⟩ := trodAll_cons hA
  obtain ⟨v1, vs1, d1, ds1, p1, q1, rfl, rfl, rfl, h1, r1⟩ := trodAll_cons r0
  obtain ⟨v2, vs2, d2, ds2, p2, q2, rfl, rfl, rfl, h2, r2⟩ := trodAll_cons r1
  obtain ⟨rfl, rfl, rfl⟩ := trodAll_nil r2
  obtain rfl : args = #[v0, v1, v2] := by cases args; simp_all
  obtain ⟨rfl, rfl⟩ := trodVars_none hV
  have k0 := h0
  have lt0 : ∀ x ∈ p0, x.block < W.heap.size := by obtain ⟨m, hm⟩ := k0; exact DataW.trod_lt m _ _ _ hm
  have k1 := h1
  have lt1 : ∀ x ∈ p1, x.block < W.heap.size := by obtain ⟨m, hm⟩ := k1; exact DataW.trod_lt m _ _ _ hm
  have k2 := h2
  have lt2 : ∀ x ∈ p2, x.block < W.heap.size := by obtain ⟨m, hm⟩ := k2; exact DataW.trod_lt m _ _ _ hm
  obtain ⟨a0, rfl, rfl, rfl, w0⟩ := open_int Tryd.underlying5 (hval 0 5 v0 rfl rfl) h0
  obtain ⟨cs1, rfl, f1⟩ := open_flat (f := 10) (ks := [.int .u8, .int .u8]) (by kernel_rfl) (.inr ⟨_, _, Tryd.underlying73⟩) (hval 1 73 v1 rfl rfl) h1
  obtain ⟨cs2, rfl, f2⟩ := open_flat (f := 10) (ks := [.bool, .bool]) (by kernel_rfl) (.inr ⟨_, _, Tryd.underlying80⟩) (hval 2 80 v2 rfl rfl) h2
  clear hA0 hval0
  have gS : Signs W := ⟨(table hL).cell gTab 0 (by decide), (table hL).cell gTab 1 (by decide)⟩
  have hS : 0 < W.heap.size := lt_of_cell (p := ⟨0, 0, none⟩) gS.1
  have wk : Calls Tryd.prog 12 #[.int .u8 a0, .agg cs1.toArray, .agg cs2.toArray] W fun e w' => e = .returned (.bool true) ∧ Below W.heap.size W w' := by
    obtain ⟨u0, ra, e0, ⟨z0, y0, g0⟩, fa⟩ := f1.un
    obtain ⟨u1, rb, e1, ⟨z1, y1, g1⟩, fb⟩ := fa.un
    have e2 := fb.un0
    obtain ⟨u3, rc, e3, ⟨z3, y3⟩, fc⟩ := f2.un
    obtain ⟨u4, rd, e4, ⟨z4, y4⟩, fd⟩ := fc.un
    have e6 := fd.un0
    subst e2 e1 e0 e6 e4 e3 y0 y1 y3 y4
    obtain ⟨b0, b0'⟩ := bounds_u8 w0
    obtain ⟨b1, b1'⟩ := bounds_u8 g0
    obtain ⟨b2, b2'⟩ := bounds_u8 g1
    exact Wr.track_walk a0 z0 z1 z3 z4 W b0 b0' b1 b1' b2 b2' hS gS
  refine wk.mono fun e W' ⟨he, bel⟩ => ?_
  subst he
  exact ⟨_, rfl, _, _, _, [], _, [], hW', trodAll_mk1 (shut_bool Tryd.underlying4 _), (trodAll_cons_mk (Below.trod laidOut (by kernel_rfl) (of_decide_eq_true (by kernel_rfl)) k0 bel lt0) (trodAll_cons_mk (Below.trod laidOut (by kernel_rfl) (of_decide_eq_true (by kernel_rfl)) k1 bel lt1) (trodAll_cons_mk (Below.trod laidOut (by kernel_rfl) (of_decide_eq_true (by kernel_rfl)) k2 bel lt2) trodAll_mk0))), rfl, bel.frame _, fun h => by cases h⟩
noncomputable def laidWorld (os : Os) : World :=
  { World.holding Tryd.prog os ⟨#[], #[], []⟩ with heap := (World.holding Tryd.prog os ⟨#[], #[], []⟩).heap.modify 0 fun
      | .cells _ t frozen => .cells #[.int .i64 1, .int .i64 (-1)] t frozen
      | o => o }
theorem laid_met (os : Os) : laidMet Tryd.prog Rows.wiresTrackRow.laid ((laidWorld os).forCall (fun _ _ => 0) ⟨#[], #[.int .u8 0, .agg #[Value.int .u8 0, Value.int .u8 0], .agg #[Value.bool false, Value.bool false]], []⟩).memory :=
  laidMet_of_run' 8 (by kernel_rfl) (by kernel_rfl)
theorem reads (os : Os) {H : Type} (enc : TypeId × Value → H) : ∃ places, DataW.whole enc Tryd.prog ((laidWorld os).forCall (fun _ _ => 0) ⟨#[], #[.int .u8 0, .agg #[Value.int .u8 0, Value.int .u8 0], .agg #[Value.bool false, Value.bool false]], []⟩).memory Tryd.f12.params.toList Rows.wiresTrackSpec.vars false #[Value.int .u8 0, Value.agg #[Value.int .u8 0, Value.int .u8 0], Value.agg #[Value.bool false, Value.bool false]].toList 8 = some ([.lit (.int .u8 0), .agg [.lit (.int .u8 0), .lit (.int .u8 0)], .agg [.lit (.bool false), .lit (.bool false)]], [], places) :=
  ⟨[], by kernel_rfl⟩
set_option maxRecDepth 100000 in
theorem lifted (os : Os) (started : os.Started) (H : Type) (enc : TypeId × Value → H) (F : Stop.Interp) :
    ReturnsInHanded {} Tryd.checked os 12 .any ((OpenSpec.ofChange Rows.wiresTrackSpec).preRow enc Tryd.prog Tryd.f12 Rows.wiresTrackRow.domain false Rows.wiresTrackRow.laid) (((OpenSpec.ofChange Rows.wiresTrackSpec).at F).post enc Tryd.prog Tryd.f12 false true false false) := by
  obtain ⟨places, hx⟩ := reads os enc
  refine returnsInHanded_of_row (C := Tryd.checked) (s := OpenSpec.ofChange Rows.wiresTrackSpec) own started (by kernel_rfl) Tryd.func12
    (witness_row_at (enc := enc) (C := Tryd.checked) false (laidWorld os) #[.int .u8 0, .agg #[Value.int .u8 0, Value.int .u8 0], .agg #[Value.bool false, Value.bool false]] rfl (by kernel_rfl) (by kernel_rfl) (by kernel_rfl)
      (OpenSpec.preRow_of_cond 8 hx (by kernel_rfl) (fun k hk => by cases hk) (by kernel_rfl) (laid_met os))) ?_
  intro W base args ds gs before hval hW _ _ _ hL _ _
  exact contract H enc W base args ds gs before hval hW hL
theorem said : Rows.WiresTrackSaid :=
  OpenClaim.holds_of_cond 12 Tryd.f12 rfl rfl rfl rfl rfl rfl rfl ⟨rfl, rfl, rfl, rfl, rfl⟩ rfl rfl rfl rfl rfl (by kernel_rfl) Tryd.func12 (by kernel_rfl)
    (of_decide_eq_true (by kernel_rfl)) (by unfold Func.isWrapper; first | (rw [if_pos (by decide +kernel)]; kernel_rfl) | (rw [if_neg (by decide +kernel)]; exact ⟨rfl, rfl⟩))
    (fun os started H enc _ F => by rw [OpenClaim.pre_eq_preRow]; exact lifted os started H enc F)
theorem plain (f : FuncId) (fn : Func) (hf : Tryd.pinned.checked.prog.funcNamed "sennit/sennitlaw08.WiresTrack" = some f) (hfn : Tryd.pinned.checked.prog.funcs[f]? = some fn) :
    false = Tryd.pinned.checked.prog.looks [] ∧ ∀ (j : Nat) t, fn.params[j]? = some t → Tryd.pinned.checked.prog.wantsStandIn t = false := by
  obtain rfl : f = 12 := Option.some.inj ((show Tryd.prog.funcNamed "sennit/sennitlaw08.WiresTrack" = some 12 by kernel_rfl).symm.trans hf) |>.symm
  obtain rfl : fn = Tryd.f12 := (Option.some.inj (Tryd.func12.symm.trans hfn)).symm
  refine ⟨by kernel_rfl, fun j t ht => ?_⟩
  rw [Tryd.params12] at ht
  have w5 : Tryd.prog.wantsStandIn 5 = false := by kernel_rfl
  have w73 : Tryd.prog.wantsStandIn 73 = false := by kernel_rfl
  have w80 : Tryd.prog.wantsStandIn 80 = false := by kernel_rfl
  have hm : t ∈ #[(5 : TypeId), (73 : TypeId), (80 : TypeId)] := Array.mem_of_getElem? ht
  simp only [List.mem_toArray, List.mem_cons, List.not_mem_nil, or_false] at hm
  rcases hm with rfl | rfl | rfl
  · exact w5
  · exact w73
  · exact w80
theorem card : Rows.WiresTrackCardSaid :=
  Claim7.holds_tied_plain_at .later [] _ _ _ _ said (fun _ h => by cases h) (by kernel_rfl) (fun _ h => by cases h) wiresTrack_row_tie rfl ⟨rfl, rfl⟩ (by kernel_rfl) rfl plain (by kernel_rfl)
end WiresTrackRow
theorem wiresTrack_holds : Rows.WiresTrackCardSaid := WiresTrackRow.card
#print axioms wiresTrack_holds
end Go.Proofs.YtbniijmabebhoaaDoor
