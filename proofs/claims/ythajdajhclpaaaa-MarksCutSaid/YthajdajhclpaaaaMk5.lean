/- Walks of the law's helpers of layer 35: small, do. -/
import Derived.Test.YthajdajhclpaaaaMk4
namespace Go.Proofs.Ythajdajhclpaaaa
open Go.RowKit

theorem ns1 : noteS (List.replicate (cnt 2) (-1, false)) (-1) 0 5 = ([(5, false), (-1, false)], -1) := by decide
theorem ns2 : noteS [(5, false), (-1, false)] (-1) 1 3 = ([(5, false), (3, false)], 3) := by decide
theorem is3 : idleS [(5, false), (3, false)] 3 1 true = ([(5, false), (3, true)], 5) := by decide
theorem ns4 : noteS [(5, false), (3, true)] 5 1 4 = ([(5, false), (4, false)], 5) := by decide
theorem cv1 : cutV 100 40 10 = 50 := by unfold cutV wrap64; decide
theorem cv2 : cutV 45 40 10 = 45 := by unfold cutV wrap64; decide

set_option maxRecDepth 100000 in
set_option maxHeartbeats 1000000 in
theorem small_any (w : World) : Calls Try.prog 6 #[] w fun e w' => e = .returned (.bool true) ∧ Fr [] w w' := by
  have hnew := Lib.hid (new_any 2 w)
  go_enter Try.func6, Try.ntmps6
  go_wp2_with fail
  refine hnew.out.mono ?_
  rintro e w1 ⟨a, g, rfl, ha, hg, hag, T1, hf1⟩
  have HT1 := Lib.hid T1
  have Hf1 := Lib.hid hf1
  clear hnew T1 hf1
  go_wp2_with fail
  refine (note_any HT1.out 0 5).mono ?_
  rintro e w2 ⟨rfl, T2, hf2⟩
  rw [ns1] at T2
  have HT2 := Lib.hid T2
  have Hf2 := Lib.hid (Hf1.out.then hf2 (by simp [fpA]; omega))
  clear HT1 Hf1 T2 hf2
  go_wp2_with fail
  refine (mark_any HT2.out).mono ?_
  rintro e w2' ⟨rfl, rfl⟩
  go_wp2_with fail
  refine (note_any HT2.out 1 3).mono ?_
  rintro e w3 ⟨rfl, T3, hf3⟩
  rw [ns2] at T3
  have HT3 := Lib.hid T3
  have Hf3 := Lib.hid (Hf2.out.then hf3 (by simp [fpA]; omega))
  clear HT2 Hf2 T3 hf3
  go_wp2_with fail
  refine (mark_any HT3.out).mono ?_
  rintro e w3' ⟨rfl, rfl⟩
  go_wp2_with fail
  refine (idle_any HT3.out 1 true).mono ?_
  rintro e w4 ⟨rfl, T4, hf4⟩
  rw [is3] at T4
  have HT4 := Lib.hid T4
  have Hf4 := Lib.hid (Hf3.out.then hf4 (by simp [fpA]; omega))
  clear HT3 Hf3 T4 hf4
  go_wp2_with fail
  refine (mark_any HT4.out).mono ?_
  rintro e w4' ⟨rfl, rfl⟩
  go_wp2_with fail
  refine (note_any HT4.out 1 4).mono ?_
  rintro e w5 ⟨rfl, T5, hf5⟩
  rw [ns4] at T5
  have HT5 := Lib.hid T5
  have Hf5 := Lib.hid (Hf4.out.then hf5 (by simp [fpA]; omega))
  clear HT4 Hf4 T5 hf5
  have c1 := cv1
  have c2 := cv2
  go_wp2_with (first
    | (go_at_call 9; refine (mark_any HT5.out).mono ?_; rintro e w5' ⟨rfl, rfl⟩)
    | (go_at_call 10; refine (cut_any _ _ _ _).mono ?_; rintro e w5' ⟨rfl, rfl⟩))
  go_ret
  exact ⟨rfl, Hf5.out⟩

end Go.Proofs.Ythajdajhclpaaaa
