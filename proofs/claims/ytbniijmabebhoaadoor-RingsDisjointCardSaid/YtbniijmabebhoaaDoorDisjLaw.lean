/- The plain law of disjoint paths, told out over the rings of four to sixteen nodes. -/
import Derived.Test.YtbniijmabebhoaaDoorPlacesLaw
namespace Go.Proofs.YtbniijmabebhoaaDoor
open Go.RowKit
set_option linter.unusedVariables false
namespace Rg
def okJ (n a b : Int) (j : Nat) : Bool := pathB n ((j / 2 : Nat) : Int) a b ((j % 2 + 1 : Nat) : Int)
def lJ (n a b : Int) (j : Nat) : List Int := if okJ n a b j then pathL n ((j / 2 : Nat) : Int) a b ((j % 2 + 1 : Nat) : Int) else []
def vis (n a b : Int) : Nat → List Int
  | 0 => [a, b]
  | j + 1 => vis n a b j ++ lJ n a b j
def cnt (n a b : Int) : Nat → Nat
  | 0 => 0
  | j + 1 => cnt n a b j + if okJ n a b j then 1 else 0
def hopAt (n a b : Int) (j k : Nat) : Int := dist n ((j / 2 : Nat) : Int) ((a :: lJ n a b j).getD k 0) ((lJ n a b j).getD k 0)
def chkJ (n a b : Int) (j : Nat) : Bool := (lJ n a b j).all (fun x => decide (0 ≤ x) && decide (x < n)) &&
  ((List.range (lJ n a b j).length).all fun k => hopAt n a b j k == 2 || (k == 0 && hopAt n a b j k == 1)) &&
  (!okJ n a b j || src n ((j / 2 : Nat) : Int) b ((j % 2 + 1 : Nat) : Int) == (a :: lJ n a b j).getD (lJ n a b j).length 0)
def near (n a b : Int) : Bool := dist n 0 a b == 1 || dist n 1 a b == 1
def chk (n a b : Int) : Bool := decide (vis n a b 4).Nodup && ((List.range 4).all fun j => chkJ n a b j) && (cnt n a b 4 == if near n a b then 3 else 4)
end Rg
set_option maxRecDepth 100000 in
theorem chk_run : ((List.range 17).all fun n => (List.range n).all fun a => (List.range n).all fun b => decide (n < 4) || (a == b) || Rg.chk n a b) = true := by decide +kernel
theorem chk_all (n a b : Int) (hn : 4 ≤ n) (hn' : n ≤ 16) (ha : 0 ≤ a) (ha' : a < n) (hb : 0 ≤ b) (hb' : b < n) (hab : ¬ a = b) : Rg.chk n a b = true := by
  obtain ⟨n, rfl⟩ := Int.eq_ofNat_of_zero_le (show 0 ≤ n by omega)
  obtain ⟨a, rfl⟩ := Int.eq_ofNat_of_zero_le ha
  obtain ⟨b, rfl⟩ := Int.eq_ofNat_of_zero_le hb
  have h := chk_run
  rw [List.all_eq_true] at h
  have h := h n (List.mem_range.2 (by omega))
  rw [List.all_eq_true] at h
  have h := h a (List.mem_range.2 (by omega))
  rw [List.all_eq_true] at h
  have h := h b (List.mem_range.2 (by omega))
  simp at h
  rcases h with (h | h) | h
  · omega
  · omega
  · exact h
end Go.Proofs.YtbniijmabebhoaaDoor
