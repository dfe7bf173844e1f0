/- Walks of the law's helpers of layer 35: small, do. -/
import Derived.Test.YthajdajhclpaaaaDoorMk4
import Derived.Test.YthajdajhclpaaaaDoorCells
namespace Go.Proofs.YthajdajhclpaaaaDoor
open Go.RowKit

theorem ns1 : noteS (List.replicate (cnt 2) (-1, false)) (-1) 0 5 = ([(5, false), (-1, false)], -1) := by decide
theorem ns2 : noteS [(5, false), (-1, false)] (-1) 1 3 = ([(5, false), (3, false)], 3) := by decide
theorem is3 : idleS [(5, false), (3, false)] 3 1 true = ([(5, false), (3, true)], 5) := by decide
theorem ns4 : noteS [(5, false), (3, true)] 5 1 4 = ([(5, false), (4, false)], 5) := by decide
theorem cv1 : cutV 100 40 10 = 50 := by unfold cutV wrap64; decide
theorem cv2 : cutV 45 40 10 = 45 := by unfold cutV wrap64; decide

set_option maxRecDepth 100000 in
set_option maxHeartbeats 1000000 in
theorem small_any (w : World) : Calls Tryd.prog 46 #[] w fun e w' => e = .returned (.bool true) ∧ Fr [] w w' := by
  have hnew := Lib.hid (new_any 2 w)
  go_enter Tryd.func46, Tryd.ntmps46
  go_wp2_with fail
  refine hnew.out.mono ?_
  rintro e w1 ⟨a, g, rfl, ha, hg, hag, T1, hf1⟩
  have HT1 := Lib.hid T1
  have Hf1 := Lib.hid hf1
  clear hnew T1 hf1
  go_wp2_with fail
  refine (note_any HT1.out 0 5).mono ?_
  rintro e w2 ⟨rfl, T2, hf2⟩
  rw [ns1] at T2
  have HT2 := Lib.hid T2
  have Hf2 := Lib.hid (Hf1.out.then hf2 (by simp [fpA]; omega))
  clear HT1 Hf1 T2 hf2
  go_wp2_with fail
  refine (mark_any HT2.out).mono ?_
  rintro e w2' ⟨rfl, rfl⟩
  go_wp2_with fail
  refine (note_any HT2.out 1 3).mono ?_
  rintro e w3 ⟨rfl, T3, hf3⟩
  rw [ns2] at T3
  have HT3 := Lib.hid T3
  have Hf3 := Lib.hid (Hf2.out.then hf3 (by simp [fpA]; omega))
  clear HT2 Hf2 T3 hf3
  go_wp2_with fail
  refine (mark_any HT3.out).mono ?_
  rintro e w3' ⟨rfl, rfl⟩
  go_wp2_with fail
  refine (idle_any HT3.out 1 true).mono ?_
  rintro e w4 ⟨rfl, T4, hf4⟩
  rw [is3] at T4
  have HT4 := Lib.hid T4
  have Hf4 := Lib.hid (Hf3.out.then hf4 (by simp [fpA]; omega))
  clear HT3 Hf3 T4 hf4
  go_wp2_with fail
  refine (mark_any HT4.out).mono ?_
  rintro e w4' ⟨rfl, rfl⟩
  go_wp2_with fail
  refine (note_any HT4.out 1 4).mono ?_
  rintro e w5 ⟨rfl, T5, hf5⟩
  rw [ns4] at T5
  have HT5 := Lib.hid T5
  have Hf5 := Lib.hid (Hf4.out.then hf5 (by simp [fpA]; omega))
  clear HT4 Hf4 T5 hf5
  have c1 := cv1
  have c2 := cv2
  go_wp2_with (first
    | (go_at_call 51; refine (mark_any HT5.out).mono ?_; rintro e w5' ⟨rfl, rfl⟩)
    | (go_at_call 60; refine (cut_any _ _ _ _).mono ?_; rintro e w5' ⟨rfl, rfl⟩))
  go_ret
  exact ⟨rfl, Hf5.out⟩

/-- Which operation a number stands for. -/
def dk (d : Int) : Int := bits .and .i64 d 3
def doE (ins : List (Int × Bool)) (d i m : Int) : Int := if dk d = 2 then idleE ins i else if dk d = 3 then idleE ins i else noteE ins i m
def doS (ins : List (Int × Bool)) (com d i m : Int) : List (Int × Bool) × Int := if dk d = 2 then idleS ins com i true else if dk d = 3 then idleS ins com i false else noteS ins com i m

set_option maxRecDepth 100000 in
theorem do_any {a : Nat} {A : Option Addr} {c : Nat} {w : World} {ins : List (Int × Bool)} {com : Int} (h : Trk w a A c ins com) (d i m : Int) :
    Calls Tryd.prog 48 #[.pointer (some ⟨a, 0, none⟩), .agg #[.int .i64 d, .int .i64 i, .int .i64 m]] w fun e w' => e = .returned (.int .i64 (doE ins d i m)) ∧
      Trk w' a A c (doS ins com d i m).1 (doS ins com d i m).2 ∧ Fr (fpA a A) w w' := by
  have hA := h.fr ((Fr.refl [] w).alloc (.cells #[.int .i64 d, .int .i64 i, .int .i64 m] 57)) (by simp)
  have H := Lib.hid hA
  clear h hA
  by_cases h2 : dk d = 2
  · have e1 : (bits .and .i64 d 3 == 2) = true := beq_iff_eq.2 h2
    have eE : doE ins d i m = idleE ins i := by unfold doE; rw [if_pos h2]
    have eS : doS ins com d i m = idleS ins com i true := by unfold doS; rw [if_pos h2]
    have E := Lib.hid eE
    have Es := Lib.hid eS
    clear h2 eE eS
    go_enter Tryd.func48, Tryd.ntmps48
    go_wp2_with (go_at_call 77; refine (idle_any H.out i true).mono ?_; rintro e w1 ⟨rfl, T, hf⟩; have HT := Lib.hid T; have Hf := Lib.hid hf; clear T hf)
    go_ret
    exact ⟨by rw [E.out]; rfl, by rw [Es.out]; exact HT.out, ((Fr.refl _ _).alloc _).trans Hf.out⟩
  · by_cases h3 : dk d = 3
    · have e1 : (bits .and .i64 d 3 == 2) = false := beq_eq_false_iff_ne.2 h2
      have e2 : (bits .and .i64 d 3 == 3) = true := beq_iff_eq.2 h3
      have eE : doE ins d i m = idleE ins i := by unfold doE; rw [if_neg h2, if_pos h3]
      have eS : doS ins com d i m = idleS ins com i false := by unfold doS; rw [if_neg h2, if_pos h3]
      have E := Lib.hid eE
      have Es := Lib.hid eS
      clear h2 h3 eE eS
      go_enter Tryd.func48, Tryd.ntmps48
      go_wp2_with (go_at_call 77; refine (idle_any H.out i false).mono ?_; rintro e w1 ⟨rfl, T, hf⟩; have HT := Lib.hid T; have Hf := Lib.hid hf; clear T hf)
      go_ret
      exact ⟨by rw [E.out]; rfl, by rw [Es.out]; exact HT.out, ((Fr.refl _ _).alloc _).trans Hf.out⟩
    · have e1 : (bits .and .i64 d 3 == 2) = false := beq_eq_false_iff_ne.2 h2
      have e2 : (bits .and .i64 d 3 == 3) = false := beq_eq_false_iff_ne.2 h3
      have eE : doE ins d i m = noteE ins i m := by unfold doE; rw [if_neg h2, if_neg h3]
      have eS : doS ins com d i m = noteS ins com i m := by unfold doS; rw [if_neg h2, if_neg h3]
      have E := Lib.hid eE
      have Es := Lib.hid eS
      clear h2 h3 eE eS
      go_enter Tryd.func48, Tryd.ntmps48
      go_wp2_with (go_at_call 76; refine (note_any H.out i m).mono ?_; rintro e w1 ⟨rfl, T, hf⟩; have HT := Lib.hid T; have Hf := Lib.hid hf; clear T hf)
      go_ret
      exact ⟨by rw [E.out]; rfl, by rw [Es.out]; exact HT.out, ((Fr.refl _ _).alloc _).trans Hf.out⟩

/-- The cells of a list of operations. -/
def opCells (l : List (Int × Int × Int)) : List Value := l.flatMap fun x => [.int .i64 x.1, .int .i64 x.2.1, .int .i64 x.2.2]
theorem opCells_at (l : List (Int × Int × Int)) (k : Nat) (h : k < l.length) : (opCells l)[k * 3]? = some (.int .i64 l[k].1) ∧ (opCells l)[k * 3 + 1]? = some (.int .i64 l[k].2.1) ∧ (opCells l)[k * 3 + 2]? = some (.int .i64 l[k].2.2) := by
  induction l generalizing k with
  | nil => simp at h
  | cons x l ih =>
    cases k with
    | zero => simp [opCells]
    | succ k =>
      have := ih k (by simpa using h)
      have e1 : (k + 1) * 3 = k * 3 + 1 + 1 + 1 := by omega
      rw [e1]
      simpa [opCells] using this


end Go.Proofs.YthajdajhclpaaaaDoor
