/- What the rows of the laws over bytes have in common; SumsCheck of any bytes. -/
import Derived.Test.YtlbnikmaafccnaaSumsCheckWalk
namespace Go.Proofs.Ytlbnikmaafccnaa
open Go.RowKit Sm
set_option linter.unusedVariables false
theorem bytes_of {xs : List Value} (h : ∀ u ∈ xs, (FK.int .u8).ok u) : ∃ bs : List Nat, xs = bs.map bv ∧ By bs := by
  obtain ⟨zs, rfl, hz⟩ := ints_of h
  refine ⟨zs.map Int.toNat, ?_, ?_⟩
  · rw [List.map_map]
    refine List.map_congr_left (fun z hm => ?_)
    obtain ⟨h1, h2⟩ := bounds_u8 (hz z hm)
    show Value.int .u8 z = .int .u8 ((z.toNat : Nat) : Int)
    rw [Int.toNat_of_nonneg h1]
  · intro b hb
    obtain ⟨z, hm, rfl⟩ := List.mem_map.1 hb
    obtain ⟨h1, h2⟩ := bounds_u8 (hz z hm)
    omega
theorem scheck_long (A : Option Addr) (n c : Nat) (w : World) (hs : 500 < n) (hm : n ≤ maxLen) :
    Calls Try.prog 10 #[.slice A n c] w fun e w' => e = .returned (.bool true) ∧ Below w.heap.size w w' := by
  unfold maxLen at hm
  have h1 : (500 : Int) < n := by omega
  have LI := hide (slives_any w)
  go_enter Try.func10, Try.ntmps10
  go_wp2_with fail
  refine LI.out.mono ?_
  rintro e w' ⟨rfl, hb⟩
  have HB := hide hb
  clear hb
  go_wp2_with fail
  go_ret
  exact ⟨rfl, HB.out⟩
end Go.Proofs.Ytlbnikmaafccnaa
