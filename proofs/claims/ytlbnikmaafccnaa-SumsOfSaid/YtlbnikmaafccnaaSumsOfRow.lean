/- SumsOf: of any three parts the law returns true. No condition. -/
import Derived.Test.YtlbnikmaafccnaaRows
import Derived.Test.YtlbnikmaafccnaaSumsOfLong
import Derived.WalkKit
import Derived.ProofKit
import Derived.OpenShut
import Derived.ShutString
import Derived.ChangeOld
import Derived.Below
namespace Go.Proofs.Ytlbnikmaafccnaa
open Go.ChangeShapes Go.WideShapes Go.ChangeAt Go.RowKit
set_option linter.unusedVariables false
namespace SumsOfRow
theorem own : ownKnob Try.prog.godebug = none := by kernel_rfl
theorem laidOut : laidOutB Try.prog = true := by kernel_rfl
set_option maxRecDepth 100000 in
theorem lifted (os : Os) (started : os.Started) (H : Type) (enc : TypeId × Value → H) :
    ReturnsInHanded {} Try.checked os 9 .any (Rows.sumsOfSpec.pre6 enc Try.prog Try.f9 Rows.sumsOfRow.domain false) (Rows.sumsOfSpec.post enc Try.prog Try.f9 false true false false) := by
  refine returnsInHanded_of_change (C := Try.checked) own started (by kernel_rfl) Try.func9
    (ChangeSpec.witness6 (enc := enc) (C := Try.checked) false ⟨#[], #[.slice none 0 0, .slice none 0 0, .slice none 0 0], []⟩ 8 (by kernel_rfl) (by kernel_rfl) (by kernel_rfl) (by kernel_rfl)) ?_
  intro W base args ds gs before hval0 hW hcnd _
  have hval : ∀ (j : Nat) t v, Try.f9.params[j]? = some t → args[j]? = some v → Value.okWide Try.prog W .any base t v := hval0
  have hW' := hW
  obtain ⟨p, q, hA0, hV, rfl, hfz, hnd⟩ := hW
  have hA : DataW.TrodAll enc Try.prog W 0 (fun _ => true) true Try.f9.params.toList args.toList ds p := hA0
  rw [Try.params9] at hA hval
  obtain ⟨v0, vs0, d0, ds0, p0, q0, hargs, rfl, rfl, h0, r0⟩ := trodAll_cons hA
  obtain ⟨v1, vs1, d1, ds1, p1, q1, rfl, rfl, rfl, h1, r1⟩ := trodAll_cons r0
  obtain ⟨v2, vs2, d2, ds2, p2, q2, rfl, rfl, rfl, h2, r2⟩ := trodAll_cons r1
  obtain ⟨rfl, rfl, rfl⟩ := trodAll_nil r2
  obtain rfl : args = #[v0, v1, v2] := by cases args; simp_all
  obtain ⟨rfl, rfl⟩ := trodVars_none hV
  have k0 := h0
  have lt0 : ∀ x ∈ p0, x.block < W.heap.size := by obtain ⟨m, hm⟩ := k0; exact DataW.trod_lt m _ _ _ hm
  have k1 := h1
  have lt1 : ∀ x ∈ p1, x.block < W.heap.size := by obtain ⟨m, hm⟩ := k1; exact DataW.trod_lt m _ _ _ hm
  have k2 := h2
  have lt2 : ∀ x ∈ p2, x.block < W.heap.size := by obtain ⟨m, hm⟩ := k2; exact DataW.trod_lt m _ _ _ hm
  obtain ⟨A0, len0, cap0, rfl, lc0, cm0, nn0, ce0⟩ := open_flats (f := 10) (ks := [.int .u8]) (by kernel_rfl) (by kernel_rfl) Try.underlying63 (hval 0 63 v0 rfl rfl) h0
  obtain ⟨A1, len1, cap1, rfl, lc1, cm1, nn1, ce1⟩ := open_flats (f := 10) (ks := [.int .u8]) (by kernel_rfl) (by kernel_rfl) Try.underlying63 (hval 1 63 v1 rfl rfl) h1
  obtain ⟨A2, len2, cap2, rfl, lc2, cm2, nn2, ce2⟩ := open_flats (f := 10) (ks := [.int .u8]) (by kernel_rfl) (by kernel_rfl) Try.underlying63 (hval 2 63 v2 rfl rfl) h2
  clear hA0 hval0
  have wk : Calls Try.prog 9 #[.slice A0 len0 cap0, .slice A1 len1 cap1, .slice A2 len2 cap2] W fun e w' => e = .returned (.bool true) ∧ Below W.heap.size W w' := by
    by_cases hg : 300 < len0 ∨ 300 < len1 ∨ 300 < len2
    · exact sof_long A0 A1 A2 len0 len1 len2 cap0 cap1 cap2 W hg (by omega) (by omega) (by omega)
    · obtain ⟨xs, hxl, hxo, hxs⟩ := list_one nn0 ce0
      obtain ⟨bs, rfl, hby⟩ := bytes_of hxo
      obtain ⟨ys, hyl, hyo, hys⟩ := list_one nn1 ce1
      obtain ⟨cs, rfl, hcy⟩ := bytes_of hyo
      obtain ⟨zs, hzl, hzo, hzs⟩ := list_one nn2 ce2
      obtain ⟨ds, rfl, hdy⟩ := bytes_of hzo
      exact sof_walk A0 A1 A2 len0 len1 len2 cap0 cap1 cap2 bs cs ds W (by simpa using hxl) (by simpa using hyl) (by simpa using hzl) (by omega) (by omega) (by omega) hby hcy hdy hxs hys hzs
  refine wk.mono fun e W' ⟨he, bel⟩ => ?_
  subst he
  exact ⟨_, rfl, _, _, _, [], _, [], hW', trodAll_mk1 (shut_bool Try.underlying4 _), (trodAll_cons_mk (Below.trod laidOut (by kernel_rfl) (of_decide_eq_true (by kernel_rfl)) k0 bel lt0) (trodAll_cons_mk (Below.trod laidOut (by kernel_rfl) (of_decide_eq_true (by kernel_rfl)) k1 bel lt1) (trodAll_cons_mk (Below.trod laidOut (by kernel_rfl) (of_decide_eq_true (by kernel_rfl)) k2 bel lt2) trodAll_mk0))), rfl, bel.frame _, fun h => by cases h⟩
theorem over : Rows.sumsOfRow.holds Try.pinned (OpenSpec.ofChange Rows.sumsOfSpec) :=
  OpenClaim.holds_of_wide 9 Try.f9 rfl rfl rfl rfl rfl rfl rfl ⟨rfl, rfl, rfl, rfl, rfl⟩ rfl rfl rfl rfl rfl (by kernel_rfl) Try.func9 (by kernel_rfl)
    (of_decide_eq_true (by kernel_rfl)) (by unfold Func.isWrapper; first | (rw [if_pos (by decide +kernel)]; kernel_rfl) | (rw [if_neg (by decide +kernel)]; exact ⟨rfl, rfl⟩))
    (fun os started H enc _ => lifted os started H enc)
end SumsOfRow
theorem sumsOf_holds : Rows.SumsOfSaid := SumsOfRow.over
#print axioms sumsOf_holds
end Go.Proofs.Ytlbnikmaafccnaa
