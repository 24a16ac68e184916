/- SumsEven: of any two lists the law returns true. No condition. -/
import Derived.Test.YtlbnikmaafccnaaRows
import Derived.Test.YtlbnikmaafccnaaSumsEvenWalk
import Derived.WalkKit
import Derived.ProofKit
import Derived.OpenShut
import Derived.ShutString
import Derived.ChangeOld
import Derived.Below
namespace Go.Proofs.Ytlbnikmaafccnaa
open Go.ChangeShapes Go.WideShapes Go.ChangeAt Go.RowKit
set_option linter.unusedVariables false
namespace SumsEvenRow
theorem own : ownKnob Try.prog.godebug = none := by kernel_rfl
theorem laidOut : laidOutB Try.prog = true := by kernel_rfl
set_option maxRecDepth 100000 in
theorem lifted (os : Os) (started : os.Started) (H : Type) (enc : TypeId × Value → H) :
    ReturnsInHanded {} Try.checked os 13 .any (Rows.sumsEvenSpec.pre6 enc Try.prog Try.f13 Rows.sumsEvenRow.domain false) (Rows.sumsEvenSpec.post enc Try.prog Try.f13 false true false false) := by
  refine returnsInHanded_of_change (C := Try.checked) own started (by kernel_rfl) Try.func13
    (ChangeSpec.witness6 (enc := enc) (C := Try.checked) false ⟨#[], #[.slice none 0 0, .slice none 0 0], []⟩ 8 (by kernel_rfl) (by kernel_rfl) (by kernel_rfl) (by kernel_rfl)) ?_
  intro W base args ds gs before hval0 hW hcnd _
  have hval : ∀ (j : Nat) t v, Try.f13.params[j]? = some t → args[j]? = some v → Value.okWide Try.prog W .any base t v := hval0
  have hW' := hW
  obtain ⟨p, q, hA0, hV, rfl, hfz, hnd⟩ := hW
  have hA : DataW.TrodAll enc Try.prog W 0 (fun _ => true) true Try.f13.params.toList args.toList ds p := hA0
  rw [Try.params13] at hA hval
  obtain ⟨v0, vs0, d0, ds0, p0, q0, hargs, rfl, rfl, h0, r0⟩ := trodAll_cons hA
  obtain ⟨v1, vs1, d1, ds1, p1, q1, rfl, rfl, rfl, h1, r1⟩ := trodAll_cons r0
  obtain ⟨rfl, rfl, rfl⟩ := trodAll_nil r1
  obtain rfl : args = #[v0, v1] := by cases args; simp_all
  obtain ⟨rfl, rfl⟩ := trodVars_none hV
  have k0 := h0
  have lt0 : ∀ x ∈ p0, x.block < W.heap.size := by obtain ⟨m, hm⟩ := k0; exact DataW.trod_lt m _ _ _ hm
  have k1 := h1
  have lt1 : ∀ x ∈ p1, x.block < W.heap.size := by obtain ⟨m, hm⟩ := k1; exact DataW.trod_lt m _ _ _ hm
  obtain ⟨A0, len0, cap0, rfl, lc0, cm0, nn0, ce0⟩ := open_flats (f := 10) (ks := [.int .u8]) (by kernel_rfl) (by kernel_rfl) Try.underlying63 (hval 0 63 v0 rfl rfl) h0
  obtain ⟨A1, len1, cap1, rfl, lc1, cm1, nn1, ce1⟩ := open_flats (f := 10) (ks := [.int .u8]) (by kernel_rfl) (by kernel_rfl) Try.underlying63 (hval 1 63 v1 rfl rfl) h1
  clear hA0 hval0
  have wk : Calls Try.prog 13 #[.slice A0 len0 cap0, .slice A1 len1 cap1] W fun e w' => e = .returned (.bool true) ∧ Below W.heap.size W w' := by
    by_cases hg : 300 < len0 ∨ 300 < len1
    · exact seven_long A0 A1 len0 len1 cap0 cap1 W hg (by omega) (by omega)
    · obtain ⟨xs, hxl, hxo, hxs⟩ := list_one nn0 ce0
      obtain ⟨bs, rfl, hby⟩ := bytes_of hxo
      obtain ⟨ys, hyl, hyo, hys⟩ := list_one nn1 ce1
      obtain ⟨cs, rfl, hcy⟩ := bytes_of hyo
      rcases Nat.lt_or_ge len1 len0 with hl | hl
      · exact seven_walk A0 A1 len0 len1 cap0 cap1 len1 bs cs W (by simpa using hxl) (by simpa using hyl) (by omega) (by omega) lc0 lc1 cm0 cm1 hby hcy hxs hys (by omega) (Nat.le_refl _) (if_pos (by omega)) (if_pos hl)
      · exact seven_walk A0 A1 len0 len1 cap0 cap1 len0 bs cs W (by simpa using hxl) (by simpa using hyl) (by omega) (by omega) lc0 lc1 cm0 cm1 hby hcy hxs hys (Nat.le_refl _) hl (if_neg (by omega)) (if_neg (by omega))
  refine wk.mono fun e W' ⟨he, bel⟩ => ?_
  subst he
  exact ⟨_, rfl, _, _, _, [], _, [], hW', trodAll_mk1 (shut_bool Try.underlying4 _), (trodAll_cons_mk (Below.trod laidOut (by kernel_rfl) (of_decide_eq_true (by kernel_rfl)) k0 bel lt0) (trodAll_cons_mk (Below.trod laidOut (by kernel_rfl) (of_decide_eq_true (by kernel_rfl)) k1 bel lt1) trodAll_mk0)), rfl, bel.frame _, fun h => by cases h⟩
theorem over : Rows.sumsEvenRow.holds Try.pinned (OpenSpec.ofChange Rows.sumsEvenSpec) :=
  OpenClaim.holds_of_wide 13 Try.f13 rfl rfl rfl rfl rfl rfl rfl ⟨rfl, rfl, rfl, rfl, rfl⟩ rfl rfl rfl rfl rfl (by kernel_rfl) Try.func13 (by kernel_rfl)
    (of_decide_eq_true (by kernel_rfl)) (by unfold Func.isWrapper; first | (rw [if_pos (by decide +kernel)]; kernel_rfl) | (rw [if_neg (by decide +kernel)]; exact ⟨rfl, rfl⟩))
    (fun os started H enc _ => lifted os started H enc)
end SumsEvenRow
theorem sumsEven_holds : Rows.SumsEvenSaid := SumsEvenRow.over
#print axioms sumsEven_holds
end Go.Proofs.Ytlbnikmaafccnaa
