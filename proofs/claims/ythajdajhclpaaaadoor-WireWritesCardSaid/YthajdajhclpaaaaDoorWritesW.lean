/- Layer 1: WireWrites. -/
import Derived.Test.YthajdajhclpaaaaDoorPrefW
import Derived.Test.YthajdajhclpaaaaDoorRefL
namespace Go.Proofs.YthajdajhclpaaaaDoor
open Go.RowKit Go.Shelf Wr

set_option maxRecDepth 100000 in
set_option maxHeartbeats 4000000 in
theorem writes_any (x : Wv) (vn vt : Value) (B B0 : Nat) (w : World) (h : LW B w) (hv : VL B0 w x vn vt) (hB0 : B0 ≤ w.heap.size) (hx : x.Int64) :
    Calls Tryd.prog 3 #[.agg (wcells x vn vt).toArray] w fun e w' => e = .returned (.bool true) ∧ Fr [] w w' := by
  have H := Lib.hid h
  have HV := Lib.hid hv
  have HX := Lib.hid hx
  show Calls _ _ #[.agg #[.int .i64 x.kind, .int .i64 x.num, .string ⟨x.text.toArray⟩, vn, vt]] _ _
  have hf0 : Fr [] w (w.alloc (.cells #[.int .i64 x.kind, .int .i64 x.num, .string ⟨x.text.toArray⟩, vn, vt] 25)) := by (repeat' (first | with_reducible exact Fr.refl _ _ | with_reducible assumption | with_reducible apply Fr.drew | with_reducible apply Fr.drewN | with_reducible apply Fr.alloc | (with_reducible refine Fr.set ?_ (.inr (by first | exact Nat.le_refl _ | exact Nat.le_succ _ | (simp; done) | (simp; omega))) _)))
  have Hf0 := Lib.hid hf0
  have hs := small01_any _ (h.quiet hf0)
  have Hs := Lib.hid hs
  have hrx : Row (w.alloc (.cells #[.int .i64 x.kind, .int .i64 x.num, .string ⟨x.text.toArray⟩, vn, vt] 25)) w.heap.size 25 (wcells x vn vt) := row_new w _ _ _ rfl
  have Hrx := Lib.hid (Five.row hrx)
  have Hlx := Lib.hid hrx.lt
  clear h hv hx hf0 hs hrx
  obtain ⟨r, hr⟩ : ∃ r : Bool, r = true ↔ Few [(x, vn, vt)] := by
    by_cases hf : Few [(x, vn, vt)]
    · exact ⟨true, by simp [hf]⟩
    · exact ⟨false, by simp [hf]⟩
  have HR := Lib.hid hr
  clear hr
  obtain ⟨wb, hwb⟩ : ∃ wb, wb = w.alloc (.cells #[.int .i64 x.kind, .int .i64 x.num, .string ⟨x.text.toArray⟩, vn, vt] 25) := ⟨_, rfl⟩
  have Hwb := Lib.hid hwb
  rw [← hwb] at Hf0 Hs Hrx Hlx
  clear hwb
  have hS : ∀ w1, Fr [] wb w1 → Fr [] wb w1 ∧ Five w1 w.heap.size x vn vt := fun w1 hf => ⟨hf, Hrx.out.fr hf Hlx.out⟩
  have HS := Lib.hid hS
  have Hwx : Hid (∀ g w1, Fr [] wb w1 → Row w1 g 25 (wcells x vn vt) → Calls Tryd.prog 12 #[.slice (some ⟨g, 0, none⟩) 1 1] w1 fun e w' => e = .returned (.bool r) ∧ Fr [] wb w') := fun g w1 hf hrow => few_one g x vn vt hf hrow (HV.out.quiet Hf0.out) r HR.out
  clear hS
  cases r with
  | false =>
    go_enter Tryd.func3, Tryd.ntmps3
    go_wp2_with fail
    rw [← Hwb.out]
    refine Hs.out.mono ?_
    rintro e w1 ⟨rfl, hf1⟩
    have Hf1 := Lib.hid hf1
    clear hf1
    obtain ⟨-, ⟨d0, d1, d2, d3, d4⟩⟩ := HS.out _ Hf1.out
    go_wp2_with fail
    have hf1 := Hf1.out
    have hrw : Row (w1.alloc (.cells #[.int .i64 x.kind, .int .i64 x.num, .string ⟨x.text.toArray⟩, vn, vt] 25)) w1.heap.size 25 (wcells x vn vt) := row_new w1 _ #[.int .i64 x.kind, .int .i64 x.num, .string ⟨x.text.toArray⟩, vn, vt] _ rfl
    have hfw : Fr [] wb (w1.alloc (.cells #[.int .i64 x.kind, .int .i64 x.num, .string ⟨x.text.toArray⟩, vn, vt] 25)) := by (repeat' (first | with_reducible exact Fr.refl _ _ | with_reducible assumption | with_reducible apply Fr.drew | with_reducible apply Fr.drewN | with_reducible apply Fr.alloc | (with_reducible refine Fr.set ?_ (.inr (by first | exact Nat.le_refl _ | exact Nat.le_succ _ | (simp; done) | (simp; omega))) _)))
    have hcc := Hwx.out _ _ hfw hrw
    refine hcc.mono ?_
    rintro e w2 ⟨rfl, hf2⟩
    have Hf2 := Lib.hid hf2
    clear hf1 hrw hfw hcc hf2
    go_wp2
    go_ret
    exact ⟨rfl, Hf0.out.trans Hf2.out⟩
  | true =>
    obtain ⟨_, hsx, _⟩ : Few [(x, vn, vt)] := HR.out.1 (by trivial)
    have SX : Hid x.Small := hsx (x, vn, vt) (by simp)
    clear hsx
    have C1 : Hid (∀ w1, Fr [] wb w1 → Calls Tryd.prog 13 #[.int .i64 x.num] w1 fun e w2 => e = .returned (.string ⟨(if x.num < 0 then [] else encInt x.num).toArray⟩) ∧ Fr [] wb w2) := fun w1 hf => (wnum_any (H.out.quiet (Hf0.out.trans hf)) x.num HX.out.num).mono fun e w2 h => ⟨h.1, hf.trans h.2⟩
    have C2 : Hid (∀ w1, Fr [] wb w1 → Calls Tryd.prog 14 #[.int .i64 x.num] w1 fun e w2 => e = .returned (.string ⟨(if x.num < 0 then [] else encInt x.num).toArray⟩) ∧ Fr [] wb w2) := fun w1 hf => (xnum_any x.num HX.out.num w1).mono fun e w2 h => ⟨h.1, hf.trans h.2⟩
    have C3 : Hid (∀ w1, Fr [] wb w1 → Calls Tryd.prog 15 #[.int .i64 x.num] w1 fun e w2 => e = .returned (.string ⟨(encInt x.num).toArray⟩) ∧ Fr [] wb w2) := fun w1 hf => (wint_any (H.out.quiet (Hf0.out.trans hf)) x.num HX.out.num).mono fun e w2 h => ⟨h.1, hf.trans h.2⟩
    have C4 : Hid (∀ w1, Fr [] wb w1 → Calls Tryd.prog 16 #[.int .i64 x.num] w1 fun e w2 => e = .returned (.string ⟨(encInt x.num).toArray⟩) ∧ Fr [] wb w2) := fun w1 hf => (xint_any x.num HX.out.num w1).mono fun e w2 h => ⟨h.1, hf.trans h.2⟩
    have C5 : Hid (∀ w1, Fr [] wb w1 → Calls Tryd.prog 17 #[.string ⟨x.text.toArray⟩] w1 fun e w2 => e = .returned (.string ⟨(encText x.text).toArray⟩) ∧ Fr [] wb w2) := fun w1 hf => (wtext_any (H.out.quiet (Hf0.out.trans hf)) ⟨x.text.toArray⟩ (by rw [size_l]; have := SX.out.text; omega)).mono fun e w2 h => ⟨h.1, hf.trans h.2⟩
    have C6 : Hid (∀ w1, Fr [] wb w1 → Calls Tryd.prog 18 #[.string ⟨x.text.toArray⟩] w1 fun e w2 => e = .returned (.string ⟨(encText x.text).toArray⟩) ∧ Fr [] wb w2) := fun w1 hf => (xtext_any ⟨x.text.toArray⟩ (by rw [size_l]; have := SX.out.text; omega) w1).mono fun e w2 h => ⟨h.1, hf.trans h.2⟩
    have hb3 := texts_bound x.texts SX.out.each
    have hb4 := nums_bound x.nums HX.out.nums
    have hn4 := SX.out.nums
    have ht4 := SX.out.texts
    have C7 : Hid (∀ w1, Fr [] wb w1 → Calls Tryd.prog 19 #[vn] w1 fun e w2 => e = .returned (.string ⟨(encList (x.nums.map encInt)).toArray⟩) ∧ Fr [] wb w2) := fun w1 hf => (wnums_any x.nums (H.out.quiet (Hf0.out.trans hf)) HX.out.nums (by omega) (by omega) (HV.out.1.quiet (Hf0.out.trans hf))).mono fun e w2 h => ⟨h.1, hf.trans h.2⟩
    have C8 : Hid (∀ w1, Fr [] wb w1 → Calls Tryd.prog 20 #[vn] w1 fun e w2 => e = .returned (.string ⟨(encList (x.nums.map encInt)).toArray⟩) ∧ Fr [] wb w2) := fun w1 hf => (xnums_any x.nums HX.out.nums (by omega) (by omega) (HV.out.1.quiet (Hf0.out.trans hf))).mono fun e w2 h => ⟨h.1, hf.trans h.2⟩
    have C9 : Hid (∀ w1, Fr [] wb w1 → Calls Tryd.prog 21 #[vt] w1 fun e w2 => e = .returned (.string ⟨(encList (x.texts.map encText)).toArray⟩) ∧ Fr [] wb w2) := fun w1 hf => (wtexts_any x.texts (H.out.quiet (Hf0.out.trans hf)) (fun t ht => by have := SX.out.each t ht; omega) (by omega) (by omega) (HV.out.2.quiet (Hf0.out.trans hf))).mono fun e w2 h => ⟨h.1, hf.trans h.2⟩
    have C10 : Hid (∀ w1, Fr [] wb w1 → Calls Tryd.prog 22 #[vt] w1 fun e w2 => e = .returned (.string ⟨(encList (x.texts.map encText)).toArray⟩) ∧ Fr [] wb w2) := fun w1 hf => (xtexts_any x.texts (fun t ht => by have := SX.out.each t ht; omega) (by omega) (by omega) (HV.out.2.quiet (Hf0.out.trans hf))).mono fun e w2 h => ⟨h.1, hf.trans h.2⟩
    clear hb3 hb4 hn4 ht4
    have hSS : ∀ w1, Fr [] wb w1 → Fr [] wb w1 ∧ w1.cell? ⟨w.heap.size, 1, none⟩ = some (.int .i64 x.num) ∧ w1.cell? ⟨w.heap.size, 2, none⟩ = some (.string ⟨x.text.toArray⟩) ∧ w1.cell? ⟨w.heap.size, 3, none⟩ = some vn ∧ w1.cell? ⟨w.heap.size, 4, none⟩ = some vt := fun w1 hf => ⟨hf, (HS.out w1 hf).2.2⟩
    have HSS := Lib.hid hSS
    clear hSS
    generalize (if x.num < 0 then [] else encInt x.num) = s1 at *
    generalize encInt x.num = s2 at *
    generalize encText x.text = s3 at *
    generalize encList (x.nums.map encInt) = s4 at *
    generalize encList (x.texts.map encText) = s5 at *
    go_enter Tryd.func3, Tryd.ntmps3
    go_wp2_with fail
    rw [← Hwb.out]
    refine Hs.out.mono ?_
    rintro e w1 ⟨rfl, hf1⟩
    have Hf1 := Lib.hid hf1
    clear hf1
    obtain ⟨-, ⟨d0, d1, d2, d3, d4⟩⟩ := HS.out _ Hf1.out
    go_wp2_with fail
    have hf1 := Hf1.out
    have hrw : Row (w1.alloc (.cells #[.int .i64 x.kind, .int .i64 x.num, .string ⟨x.text.toArray⟩, vn, vt] 25)) w1.heap.size 25 (wcells x vn vt) := row_new w1 _ #[.int .i64 x.kind, .int .i64 x.num, .string ⟨x.text.toArray⟩, vn, vt] _ rfl
    have hfw : Fr [] wb (w1.alloc (.cells #[.int .i64 x.kind, .int .i64 x.num, .string ⟨x.text.toArray⟩, vn, vt] 25)) := by (repeat' (first | with_reducible exact Fr.refl _ _ | with_reducible assumption | with_reducible apply Fr.drew | with_reducible apply Fr.drewN | with_reducible apply Fr.alloc | (with_reducible refine Fr.set ?_ (.inr (by first | exact Nat.le_refl _ | exact Nat.le_succ _ | (simp; done) | (simp; omega))) _)))
    have hcc := Hwx.out _ _ hfw hrw
    refine hcc.mono ?_
    rintro e w2 ⟨rfl, hf2⟩
    clear hf1 hrw hfw hcc d0 d1 d2 d3 d4 Hf1
    go_wp2_with fail
    have hf2d := hf2.drew
    go_region_held3 (fun wx => Fr [] wb wx ∧ wx.cell? ⟨w.heap.size, 1, none⟩ = some (.int .i64 x.num) ∧ wx.cell? ⟨w.heap.size, 2, none⟩ = some (.string ⟨x.text.toArray⟩) ∧ wx.cell? ⟨w.heap.size, 3, none⟩ = some vn ∧ wx.cell? ⟨w.heap.size, 4, none⟩ = some vt) (exact HSS.out _ (by assumption)) (first
      | (go_at_call 13; refine (C1.out _ (by assumption)).mono ?_; rintro e w3 ⟨rfl, hf3⟩)
      | (go_at_call 14; refine (C2.out _ (by assumption)).mono ?_; rintro e w4 ⟨rfl, hf4⟩)
      | (go_at_call 15; refine (C3.out _ (by assumption)).mono ?_; rintro e w5 ⟨rfl, hf5⟩)
      | (go_at_call 16; refine (C4.out _ (by assumption)).mono ?_; rintro e w6 ⟨rfl, hf6⟩)
      | (go_at_call 17; refine (C5.out _ (by assumption)).mono ?_; rintro e w7 ⟨rfl, hf7⟩)
      | (go_at_call 18; refine (C6.out _ (by assumption)).mono ?_; rintro e w8 ⟨rfl, hf8⟩))
    have hf8d := hf8.drew
    go_wp2_with fail
    go_region_held3 (fun wx => Fr [] wb wx ∧ wx.cell? ⟨w.heap.size, 1, none⟩ = some (.int .i64 x.num) ∧ wx.cell? ⟨w.heap.size, 2, none⟩ = some (.string ⟨x.text.toArray⟩) ∧ wx.cell? ⟨w.heap.size, 3, none⟩ = some vn ∧ wx.cell? ⟨w.heap.size, 4, none⟩ = some vt) (exact HSS.out _ (by assumption)) (first
      | (go_at_call 19; refine (C7.out _ (by assumption)).mono ?_; rintro e w9 ⟨rfl, hf9⟩)
      | (go_at_call 20; refine (C8.out _ (by assumption)).mono ?_; rintro e w10 ⟨rfl, hf10⟩)
      | (go_at_call 21; refine (C9.out _ (by assumption)).mono ?_; rintro e w11 ⟨rfl, hf11⟩)
      | (go_at_call 22; refine (C10.out _ (by assumption)).mono ?_; rintro e w12 ⟨rfl, hf12⟩))
    go_wp2
    go_ret
    exact ⟨rfl, Hf0.out.trans hf12⟩

end Go.Proofs.YthajdajhclpaaaaDoor
