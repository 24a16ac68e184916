/- The chapter's example of layer 2. -/
import Derived.Test.YtlbnikmaafccnaaSumsCheck
import Derived.Lib.SlBytesConst
namespace Go.Proofs.Ytlbnikmaafccnaa
open Go.RowKit Sm
set_option linter.unusedVariables false
theorem sumB_len (s : Nat) : (sumB s).length = 4 := rfl
theorem putV_len (bs : List Nat) : (putV bs).length = bs.length + 4 := by unfold putV; rw [List.length_append]; rfl
theorem put_take (bs : List Nat) : (putV bs).take ((putV bs).length - 4) = bs := by
  rw [putV_len, Nat.add_sub_cancel]
  unfold putV
  exact List.take_left
theorem check_put (bs : List Nat) : checkB (putV bs) = true := by
  unfold checkB
  rw [put_take, putV_len, decide_eq_true (by omega), decide_eq_true rfl]
  rfl
theorem putV_by {bs : List Nat} (h : By bs) : By (putV bs) := by
  intro b hb
  have hl := ofV_lt bs
  unfold putV at hb
  rcases List.mem_append.1 hb with hb | hb
  · exact h b hb
  · simp [sumB] at hb
    rcases hb with rfl | rfl | rfl | rfl <;> omega
theorem of_nine : ofV [49, 50, 51, 52, 53, 54, 55, 56, 57] = 4236843288 := by decide +kernel
theorem parts_nil (w : World) (A : Option Addr) : Parts w A [] := fun i bs h => by simp at h
set_option maxRecDepth 100000 in
set_option maxHeartbeats 8000000 in
theorem slives_any (w : World) : Calls Try.prog 30 #[] w fun e w' => e = .returned (.bool true) ∧ Below w.heap.size w w' := by
  have kc := fun (w : World) (C : Array Value) (n c : Nat) => Lib.run_convert_bytes_const (P := Try.prog) w 63 5 C n c Try.underlying63 Try.underlying5
  have s7 := hide (Sl.new w #[.int .u8 7] 5 (0, 0) ([7].map bv) rfl)
  have P7 := hide (parts_one (w := (w.alloc (.cells #[.int .u8 7] 5)).alloc (.cells #[.slice (some ⟨w.heap.size, 0, none⟩) 1 1] 63)) (g := w.heap.size + 1) (m := 1) (c := 1) (bs := [7]) rfl (by unfold maxLen; omega) (cell_new' (w.alloc (.cells #[.int .u8 7] 5)) _ _ _ 0 _ (by simp)) ((s7.out.alloc (Nat.le_refl _) _).more (by simp)) (fun b hb => by simp at hb; omega))
  have PT := hide (put_any (some ⟨w.heap.size + 1, 0, none⟩) 1 1 [[7]] _ rfl (by omega) P7.out (by decide))
  rw [show [[7]].flatten = [7] from rfl] at PT
  have hl7 : (putV [7]).length = 5 := putV_len [7]
  have ht7 : (putV [7]).take 1 = [7] := by have := put_take [7]; rw [hl7] at this; exact this
  have hc7 := check_put [7]
  have hb7 : By (putV [7]) := putV_by (fun b hb => by simp at hb; omega)
  rw [hl7] at PT
  obtain ⟨p7, hp7⟩ : ∃ p7, putV [7] = p7 := ⟨_, rfl⟩
  rw [hp7] at PT hl7 ht7 hc7 hb7
  have HL7 := hide hl7
  have HT7 := hide ht7
  have HC7 := hide hc7
  have HB7 := hide hb7
  have s123 := hide (fun (W : World) => Sl.new W #[.int .u8 1, .int .u8 2, .int .u8 3] 5 (0, 0) ([1, 2, 3].map bv) rfl)
  have hc3 := hide (show checkB [1, 2, 3] = false from by decide)
  clear hp7 hl7 ht7 hc7 hb7 s7 P7
  go_enter Try.func30, Try.ntmps30
  go_wp2_with fail
  refine PT.out.mono ?_
  rintro e w1 ⟨⟨A1, rfl, r1⟩, b1⟩
  have hz1 := b1.size
  have R1 := hide r1
  have B1 := hide (((Below.alloc (Below.refl w.heap.size w) (Nat.le_refl _) (.cells #[.int .u8 7] 5)).alloc (by simp) (.cells #[.slice (some ⟨w.heap.size, 0, none⟩) 1 1] 63)).trans (b1.mono (by simp; omega)))
  have CK := hide (check_any A1 5 5 p7 w1 HL7.out (by omega) (Nat.le_refl _) (by unfold maxLen; omega) HB7.out R1.out.sl)
  rw [HC7.out] at CK
  clear b1 r1 PT hz1
  go_wp2_with fail
  refine CK.out.mono ?_
  rintro e w2 ⟨⟨A2, rfl, r2⟩, b2⟩
  simp only [if_true] at r2 ⊢
  have R2 := hide (show ByRow w2 w1.heap.size A2 [7] from by rw [← HT7.out]; exact r2)
  have B2 := hide (B1.out.trans (b2.mono B1.out.size))
  clear b2 r2 CK R1 B1
  go_wp2_with fail
  have CK := hide (check_any (some ⟨w2.heap.size, 0, none⟩) 3 3 [1, 2, 3] _ rfl (by omega) (Nat.le_refl _) (by unfold maxLen; omega) (fun b hb => by simp at hb; omega) (s123.out w2))
  rw [hc3.out] at CK
  refine CK.out.mono ?_
  rintro e w3 ⟨⟨A3, rfl, r3⟩, b3⟩
  have B23 := hide (show Far (fun _ => False) w2 w3 from ((Far.refl _ w2).alloc _).trans (far_of_below b3))
  have R3 := hide (R2.out.far B23.out (fun _ _ h => h))
  have B3 := hide (Far.below B2.out B23.out B2.out.size (fun k h => h.elim))
  clear b3 r3 CK B2 R2
  go_wp2_with fail
  have P9 := hide (parts_one (w := (w3.alloc (.cells #[.int .u8 49, .int .u8 50, .int .u8 51, .int .u8 52, .int .u8 53, .int .u8 54, .int .u8 55, .int .u8 56, .int .u8 57] 5 (9, 10))).alloc (.cells #[.slice (some ⟨w3.heap.size, 0, none⟩) 9 9] 63)) (g := w3.heap.size + 1) (m := 9) (c := 9) (bs := [49, 50, 51, 52, 53, 54, 55, 56, 57]) rfl (by unfold maxLen; omega) (cell_new' (w3.alloc (.cells #[.int .u8 49, .int .u8 50, .int .u8 51, .int .u8 52, .int .u8 53, .int .u8 54, .int .u8 55, .int .u8 56, .int .u8 57] 5 (9, 10))) _ _ _ 0 _ (by simp)) (((Sl.new w3 #[.int .u8 49, .int .u8 50, .int .u8 51, .int .u8 52, .int .u8 53, .int .u8 54, .int .u8 55, .int .u8 56, .int .u8 57] 5 (9, 10) ([49, 50, 51, 52, 53, 54, 55, 56, 57].map bv) rfl).alloc (Nat.le_refl _) _).more (by simp)) (fun b hb => by simp at hb; omega))
  have O9 := hide (of_any (some ⟨w3.heap.size + 1, 0, none⟩) 1 1 [[49, 50, 51, 52, 53, 54, 55, 56, 57]] _ rfl (by omega) P9.out)
  rw [show [[49, 50, 51, 52, 53, 54, 55, 56, 57]].flatten = [49, 50, 51, 52, 53, 54, 55, 56, 57] from rfl, of_nine] at O9
  refine O9.out.mono ?_
  rintro e w4 ⟨rfl, b4⟩
  have F4 := hide (show Far (fun _ => False) w3 w4 from (((Far.refl _ w3).alloc _).alloc _).trans (far_of_below b4))
  have R4 := hide (R3.out.far F4.out (fun _ _ h => h))
  have B4 := hide (Far.below B3.out F4.out B3.out.size (fun k h => h.elim))
  clear b4 O9 P9 B3 R3 F4 B23
  go_wp2_with fail
  refine (of_any none 0 0 [] _ rfl (by omega) (parts_nil _ _)).mono ?_
  rintro e w5 ⟨rfl, b5⟩
  rw [show ofV ([] : List (List Nat)).flatten = 0 from by decide]
  have F5 := hide (far_of_below b5)
  have R5 := hide (R4.out.far F5.out (fun _ _ h => h))
  have B5 := hide (Far.below B4.out F5.out B4.out.size (fun k h => h.elim))
  clear b5 B4 R4 F5
  go_wp2_with fail
  refine (same_eq A2 (some ⟨w5.heap.size, 0, none⟩) _ 1 _ 1 _ _ [7] _ rfl rfl (R5.out.sl.alloc (Nat.le_refl _) _) (Sl.new w5 #[.int .u8 7] 5 (0, 0) ([7].map bv) rfl)).mono ?_
  rintro e w6 ⟨rfl, rfl⟩
  go_wp2_with fail
  go_ret
  exact ⟨rfl, B5.out.alloc B5.out.size _⟩
end Go.Proofs.Ytlbnikmaafccnaa
