/- Layer 1: the law's first look ('small'). -/
import Derived.Test.YthajdajhclpaaaaDoorWireI
namespace Go.Proofs.YthajdajhclpaaaaDoor
open Go.RowKit Go.Shelf Wr

theorem s_n0 : (⟨(encInt 0).toArray⟩ : ByteArray) = ⟨#[48, 59]⟩ := by
  simp [encInt, Lib.itoa, Lib.decDigits]
theorem s_n300 : (⟨(encInt 300).toArray⟩ : ByteArray) = ⟨#[51, 48, 48, 59]⟩ := by
  simp [encInt, Lib.itoa, Lib.decDigits]
theorem s_m7 : (⟨(encInt (-7)).toArray⟩ : ByteArray) = ⟨#[45, 55, 59]⟩ := by
  simp [encInt, Lib.itoa, Lib.decDigits]
theorem s_7 : (⟨(encInt 7).toArray⟩ : ByteArray) = ⟨#[55, 59]⟩ := by
  simp [encInt, Lib.itoa, Lib.decDigits]
theorem s_txt : (⟨(encText [97, 44, 98]).toArray⟩ : ByteArray) = ⟨#[51, 58, 97, 44, 98, 44]⟩ := by
  simp [encText, Lib.itoa, Lib.decDigits]
theorem s_nums : (⟨(encList ([1, -1].map encInt)).toArray⟩ : ByteArray) = ⟨#[50, 91, 49, 59, 45, 49, 59, 93]⟩ := by
  simp [encList, encInt, Lib.itoa, Lib.decDigits]
theorem s_texts : (⟨(encList (([] : List (List UInt8)).map encText)).toArray⟩ : ByteArray) = ⟨#[48, 91, 93]⟩ := by
  simp [encList, Lib.itoa, Lib.decDigits]
theorem s_007 : rnat ([48, 48, 55, 59], false) = (0, dead) := by
  have h : Lib.atoiAll [48, 48, 55] = .ok 7 := by rfl
  simp [rnat, rnum, numR, Lib.indexByte, h, Lib.itoa, Lib.decDigits]

section
variable {B : Nat} {w : World}
theorem num_acc (H : LW B w) (n : Int) (hn : I64 n) (s : ByteArray) (hs : (⟨(if n < 0 then [] else encInt n).toArray⟩ : ByteArray) = s) (w1 : World) (hf : Fr [] w w1) : Calls Tryd.prog 13 #[.int .i64 n] w1 fun e w2 => e = .returned (.string s) ∧ Fr [] w w2 := by
  subst hs
  exact (wnum_any (H.quiet hf) n hn).mono fun e w2 h => ⟨h.1, hf.trans h.2⟩
theorem int_acc (H : LW B w) (n : Int) (hn : I64 n) (s : ByteArray) (hs : (⟨(encInt n).toArray⟩ : ByteArray) = s) (w1 : World) (hf : Fr [] w w1) : Calls Tryd.prog 15 #[.int .i64 n] w1 fun e w2 => e = .returned (.string s) ∧ Fr [] w w2 := by
  subst hs
  exact (wint_any (H.quiet hf) n hn).mono fun e w2 h => ⟨h.1, hf.trans h.2⟩
theorem text_acc (H : LW B w) (t s : ByteArray) (ht : t.size ≤ 1000000) (hs : (⟨(encText t.data.toList).toArray⟩ : ByteArray) = s) (w1 : World) (hf : Fr [] w w1) : Calls Tryd.prog 17 #[.string t] w1 fun e w2 => e = .returned (.string s) ∧ Fr [] w w2 := by
  subst hs
  exact (wtext_any (H.quiet hf) t (by omega)).mono fun e w2 h => ⟨h.1, hf.trans h.2⟩
theorem nums_acc (H : LW B w) (s : ByteArray) (hs : (⟨(encList ([1, -1].map encInt)).toArray⟩ : ByteArray) = s) (w1 : World) (hf : Fr [] w w1) (g : Nat) (hr : Row w1 g 3 [.int .i64 1, .int .i64 (-1)]) : Calls Tryd.prog 19 #[.slice (some ⟨g, 0, none⟩) 2 2] w1 fun e w2 => e = .returned (.string s) ∧ Fr [] w w2 := by
  subst hs
  refine (wnums_any [1, -1] (H.quiet hf) (by simp [I64]) (by simp) (by have h1 := encInt_len 1 (by simp [I64]); have h2 := encInt_len (-1) (by simp [I64]); simp; omega) (B0 := w1.heap.size) ⟨some ⟨g, 0, none⟩, 2, rfl, by decide, fun _ => ⟨g, 0, rfl, hr.lt, hr.lt, fun j u hu => ?_⟩⟩).mono fun e w2 h => ⟨h.1, hf.trans h.2⟩
  rw [Nat.zero_add, hr.cell]
  exact hu
theorem texts_acc (H : LW B w) (s : ByteArray) (hs : (⟨(encList (([] : List (List UInt8)).map encText)).toArray⟩ : ByteArray) = s) (w1 : World) (hf : Fr [] w w1) : Calls Tryd.prog 21 #[.slice none 0 0] w1 fun e w2 => e = .returned (.string s) ∧ Fr [] w w2 := by
  subst hs
  exact (wtexts_any [] (H.quiet hf) (by simp) (by simp) (by simp) (B0 := 0) (SL.nil _ _ _)).mono fun e w2 h => ⟨h.1, hf.trans h.2⟩
end

set_option maxRecDepth 100000 in
set_option maxHeartbeats 2000000 in
theorem small01_any {B : Nat} (w : World) (h : LW B w) : Calls Tryd.prog 11 #[] w fun e w' => e = .returned (.bool true) ∧ Fr [] w w' := by
  have H := Lib.hid h
  have N0 := Lib.hid (num_acc h 0 (by simp [I64]) ⟨#[48, 59]⟩ s_n0)
  have N3 := Lib.hid (num_acc h 300 (by simp [I64]) ⟨#[51, 48, 48, 59]⟩ s_n300)
  have N1 := Lib.hid (num_acc h (-1) (by simp [I64]) ⟨#[]⟩ rfl)
  have I7 := Lib.hid (int_acc h (-7) (by simp [I64]) ⟨#[45, 55, 59]⟩ s_m7)
  have J7 := Lib.hid (int_acc h 7 (by simp [I64]) ⟨#[55, 59]⟩ s_7)
  have T1 := Lib.hid (text_acc h ⟨#[97, 44, 98]⟩ ⟨#[51, 58, 97, 44, 98, 44]⟩ (by decide) s_txt)
  have M1 := Lib.hid (nums_acc h ⟨#[50, 91, 49, 59, 45, 49, 59, 93]⟩ s_nums)
  have L1 := Lib.hid (texts_acc h ⟨#[48, 91, 93]⟩ s_texts)
  clear h
  have hf0 : Fr [] w w := Fr.refl _ _
  go_enter Tryd.func11, Tryd.ntmps11
  go_wp2_with (first
    | (go_at_call_of 13 (Value.int IntKind.i64 0); refine (N0.out _ (by (repeat' (first | with_reducible exact Fr.refl _ _ | with_reducible assumption | with_reducible apply Fr.drew | with_reducible apply Fr.drewN | with_reducible apply Fr.alloc | (with_reducible refine Fr.set ?_ (.inr (by first | exact Nat.le_refl _ | exact Nat.le_succ _ | (simp; done) | (simp; omega))) _))))).mono ?_; rintro e w1 ⟨rfl, hf1⟩)
    | (go_at_call_of 13 (Value.int IntKind.i64 300); refine (N3.out _ (by (repeat' (first | with_reducible exact Fr.refl _ _ | with_reducible assumption | with_reducible apply Fr.drew | with_reducible apply Fr.drewN | with_reducible apply Fr.alloc | (with_reducible refine Fr.set ?_ (.inr (by first | exact Nat.le_refl _ | exact Nat.le_succ _ | (simp; done) | (simp; omega))) _))))).mono ?_; rintro e w2 ⟨rfl, hf2⟩)
    | (go_at_call 13; refine (N1.out _ (by (repeat' (first | with_reducible exact Fr.refl _ _ | with_reducible assumption | with_reducible apply Fr.drew | with_reducible apply Fr.drewN | with_reducible apply Fr.alloc | (with_reducible refine Fr.set ?_ (.inr (by first | exact Nat.le_refl _ | exact Nat.le_succ _ | (simp; done) | (simp; omega))) _))))).mono ?_; rintro e w3 ⟨rfl, hf3⟩)
    | (go_at_call_of 15 (Value.int IntKind.i64 7); refine (J7.out _ (by (repeat' (first | with_reducible exact Fr.refl _ _ | with_reducible assumption | with_reducible apply Fr.drew | with_reducible apply Fr.drewN | with_reducible apply Fr.alloc | (with_reducible refine Fr.set ?_ (.inr (by first | exact Nat.le_refl _ | exact Nat.le_succ _ | (simp; done) | (simp; omega))) _))))).mono ?_; rintro e w5 ⟨rfl, hf5⟩)
    | (go_at_call 15; refine (I7.out _ (by (repeat' (first | with_reducible exact Fr.refl _ _ | with_reducible assumption | with_reducible apply Fr.drew | with_reducible apply Fr.drewN | with_reducible apply Fr.alloc | (with_reducible refine Fr.set ?_ (.inr (by first | exact Nat.le_refl _ | exact Nat.le_succ _ | (simp; done) | (simp; omega))) _))))).mono ?_; rintro e w4 ⟨rfl, hf4⟩)
    | (go_at_call 17; refine (T1.out _ (by (repeat' (first | with_reducible exact Fr.refl _ _ | with_reducible assumption | with_reducible apply Fr.drew | with_reducible apply Fr.drewN | with_reducible apply Fr.alloc | (with_reducible refine Fr.set ?_ (.inr (by first | exact Nat.le_refl _ | exact Nat.le_succ _ | (simp; done) | (simp; omega))) _))))).mono ?_; rintro e w6 ⟨rfl, hf6⟩)
    | (go_at_call 19; refine (M1.out _ (by (repeat' (first | with_reducible exact Fr.refl _ _ | with_reducible assumption | with_reducible apply Fr.drew | with_reducible apply Fr.drewN | with_reducible apply Fr.alloc | (with_reducible refine Fr.set ?_ (.inr (by first | exact Nat.le_refl _ | exact Nat.le_succ _ | (simp; done) | (simp; omega))) _)))) _ (row_new _ _ _ _ rfl)).mono ?_; rintro e w7 ⟨rfl, hf7⟩)
    | (go_at_call 21; refine (L1.out _ (by (repeat' (first | with_reducible exact Fr.refl _ _ | with_reducible assumption | with_reducible apply Fr.drew | with_reducible apply Fr.drewN | with_reducible apply Fr.alloc | (with_reducible refine Fr.set ?_ (.inr (by first | exact Nat.le_refl _ | exact Nat.le_succ _ | (simp; done) | (simp; omega))) _))))).mono ?_; rintro e w8 ⟨rfl, hf8⟩))
  refine (open_any [48, 48, 55, 59] _).mono ?_
  rintro e w9 ⟨a, rfl, ha, hr, hf9⟩
  have Hf := Lib.hid (hf8.trans hf9)
  have Hr := Lib.hid hr
  have hwa : w.heap.size ≤ a := Nat.le_trans hf8.size ha
  clear hf0 hf1 hf2 hf3 hf4 hf5 hf6 hf7 hf8 hf9 hr ha N0 N3 N1 I7 J7 T1 M1 L1
  have Hn := Lib.hid (num_any a [48, 48, 55, 59] false B w9 Hr.out (H.out.quiet Hf.out) (Nat.le_trans H.out.le hwa) (by decide))
  go_wp2_with fail
  refine Hn.out.mono ?_
  rw [s_007]
  rintro e w10 ⟨rfl, h1, h2⟩
  have H1 := Lib.hid h1
  have H2 := Lib.hid h2
  clear h1 h2 Hn
  have HL := Lib.hid (left_any a dead w10 H1.out (by decide))
  have HD := Lib.hid (done_any a dead w10 H1.out)
  go_wp2_with (first
    | (go_at_call 30; refine HL.out.mono ?_; rintro e w11 ⟨rfl, rfl⟩)
    | (go_at_call 31; refine HD.out.mono ?_; rintro e w12 ⟨rfl, rfl⟩))
  go_ret
  exact ⟨rfl, Hf.out.then H2.out (fun i hi => .inr (by have e : i = a := (by simpa using hi); omega))⟩

end Go.Proofs.YthajdajhclpaaaaDoor
