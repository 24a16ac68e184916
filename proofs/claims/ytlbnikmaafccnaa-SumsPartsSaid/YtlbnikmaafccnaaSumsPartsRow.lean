/- SumsParts: of any bytes, wherever they are cut, the law returns true. No condition. -/
import Derived.Test.YtlbnikmaafccnaaRows
import Derived.Test.YtlbnikmaafccnaaSumsPartsWalk
import Derived.WalkKit
import Derived.ProofKit
import Derived.OpenShut
import Derived.ShutString
import Derived.ChangeOld
import Derived.Below
namespace Go.Proofs.Ytlbnikmaafccnaa
open Go.ChangeShapes Go.WideShapes Go.ChangeAt Go.RowKit
set_option linter.unusedVariables false
namespace SumsPartsRow
theorem own : ownKnob Try.prog.godebug = none := by kernel_rfl
theorem laidOut : laidOutB Try.prog = true := by kernel_rfl
set_option maxRecDepth 100000 in
theorem lifted (os : Os) (started : os.Started) (H : Type) (enc : TypeId × Value → H) :
    ReturnsInHanded {} Try.checked os 12 .any (Rows.sumsPartsSpec.pre6 enc Try.prog Try.f12 Rows.sumsPartsRow.domain false) (Rows.sumsPartsSpec.post enc Try.prog Try.f12 false true false false) := by
  refine returnsInHanded_of_change (C := Try.checked) own started (by kernel_rfl) Try.func12
    (ChangeSpec.witness6 (enc := enc) (C := Try.checked) false ⟨#[], #[.slice none 0 0, .agg #[Value.int .u16 0, Value.int .u16 0]], []⟩ 8 (by kernel_rfl) (by kernel_rfl) (by kernel_rfl) (by kernel_rfl)) ?_
  intro W base args ds gs before hval0 hW hcnd _
  have hval : ∀ (j : Nat) t v, Try.f12.params[j]? = some t → args[j]? = some v → Value.okWide Try.prog W .any base t v := hval0
  have hW' := hW
  obtain ⟨p, q, hA0, hV, rfl, hfz, hnd⟩ := hW
  have hA : DataW.TrodAll enc Try.prog W 0 (fun _ => true) true Try.f12.params.toList args.toList ds p := hA0
  rw [Try.params12] at hA hval
  obtain ⟨v0, vs0, d0, ds0, p0, q0, hargs, rfl, rfl, h0, r0⟩ := trodAll_cons hA
  obtain ⟨v1, vs1, d1, ds1, p1, q1, rfl, rfl, rfl, h1, r1⟩ := trodAll_cons r0
  obtain ⟨rfl, rfl, rfl⟩ := trodAll_nil r1
  obtain rfl : args = #[v0, v1] := by cases args; simp_all
  obtain ⟨rfl, rfl⟩ := trodVars_none hV
  have k0 := h0
  have lt0 : ∀ x ∈ p0, x.block < W.heap.size := by obtain ⟨m, hm⟩ := k0; exact DataW.trod_lt m _ _ _ hm
  have k1 := h1
  have lt1 : ∀ x ∈ p1, x.block < W.heap.size := by obtain ⟨m, hm⟩ := k1; exact DataW.trod_lt m _ _ _ hm
  obtain ⟨A0, len0, cap0, rfl, lc0, cm0, nn0, ce0⟩ := open_flats (f := 10) (ks := [.int .u8]) (by kernel_rfl) (by kernel_rfl) Try.underlying63 (hval 0 63 v0 rfl rfl) h0
  obtain ⟨cs1, rfl, f1⟩ := open_flat (f := 10) (ks := [.int .u16, .int .u16]) (by kernel_rfl) (.inr ⟨_, _, Try.underlying80⟩) (hval 1 80 v1 rfl rfl) h1
  clear hA0 hval0
  have wk : Calls Try.prog 12 #[.slice A0 len0 cap0, .agg cs1.toArray] W fun e w' => e = .returned (.bool true) ∧ Below W.heap.size W w' := by
    obtain ⟨u0, ra, e0, ⟨z0, e2, y0⟩, fa⟩ := f1.un
    obtain ⟨u1, rb, e1, ⟨z1, e3, y1⟩, fb⟩ := fa.un
    have e4 := fb.un0
    subst e4 e1 e3 e2 e0
    obtain ⟨b0, b0'⟩ := bounds_u16 y0
    obtain ⟨b1, b1'⟩ := bounds_u16 y1
    rcases Nat.lt_or_ge 300 len0 with hg | hg
    · exact sparts_long A0 len0 cap0 z0 z1 W hg (by omega)
    · obtain ⟨xs, hxl, hxo, hxs⟩ := list_one nn0 ce0
      obtain ⟨bs, rfl, hby⟩ := bytes_of hxo
      obtain ⟨m0, rfl⟩ := Int.eq_ofNat_of_zero_le b0
      obtain ⟨m1, rfl⟩ := Int.eq_ofNat_of_zero_le b1
      exact sparts_walk A0 len0 cap0 m0 m1 bs W (by simpa using hxl) hg lc0 cm0 hby hxs (by omega) (by omega)
  refine wk.mono fun e W' ⟨he, bel⟩ => ?_
  subst he
  exact ⟨_, rfl, _, _, _, [], _, [], hW', trodAll_mk1 (shut_bool Try.underlying4 _), (trodAll_cons_mk (Below.trod laidOut (by kernel_rfl) (of_decide_eq_true (by kernel_rfl)) k0 bel lt0) (trodAll_cons_mk (Below.trod laidOut (by kernel_rfl) (of_decide_eq_true (by kernel_rfl)) k1 bel lt1) trodAll_mk0)), rfl, bel.frame _, fun h => by cases h⟩
theorem over : Rows.sumsPartsRow.holds Try.pinned (OpenSpec.ofChange Rows.sumsPartsSpec) :=
  OpenClaim.holds_of_wide 12 Try.f12 rfl rfl rfl rfl rfl rfl rfl ⟨rfl, rfl, rfl, rfl, rfl⟩ rfl rfl rfl rfl rfl (by kernel_rfl) Try.func12 (by kernel_rfl)
    (of_decide_eq_true (by kernel_rfl)) (by unfold Func.isWrapper; first | (rw [if_pos (by decide +kernel)]; kernel_rfl) | (rw [if_neg (by decide +kernel)]; exact ⟨rfl, rfl⟩))
    (fun os started H enc _ => lifted os started H enc)
end SumsPartsRow
theorem sumsParts_holds : Rows.SumsPartsSaid := SumsPartsRow.over
#print axioms sumsParts_holds
end Go.Proofs.Ytlbnikmaafccnaa
