/- Layer 1: equal, where the reader stands at the value's encoding. (Printed by genequal.py.) -/
import Derived.Test.YthajdajhclpaaaaDoorLawS
namespace Go.Proofs.YthajdajhclpaaaaDoor
open Go.RowKit Go.Shelf Wr

theorem keepc {S : List Nat} {w w' : World} {g i : Nat} {u : Value} (hf : Fr S w w') (h : w.cell? ⟨g, i, none⟩ = some u) (hg : g < w.heap.size) (hn : g ∉ S) : w'.cell? ⟨g, i, none⟩ = some u := (hf.cell (p := ⟨g, i, none⟩) hg hn).trans h

set_option maxRecDepth 100000 in
set_option maxHeartbeats 4000000 in
theorem equal_any (x : Wv) (vn vt : Value) (B B0 a : Nat) (r : List UInt8) (w : World) (h : LW B w) (hB : B ≤ a) (hr : RdIs w a (x.enc ++ r, false)) (hv : VL B0 w x vn vt) (hva : B0 ≤ a) (hi : x.Int64) (hs : x.Small) (hl : (x.enc ++ r).length ≤ 10000000) :
    Calls Tryd.prog 33 #[.pointer (some ⟨a, 0, none⟩), .agg (wcells x vn vt).toArray] w fun e w' => e = .returned (.bool true) ∧ RdIs w' a (r, false) ∧ Fr [a] w w' := by
  have H := Lib.hid h
  have HV := Lib.hid hv
  have HI := Lib.hid hi
  have HS := Lib.hid hs
  have HR := Lib.hid hr
  have hal := hr.lt
  have he : x.enc = if x.kind % 5 = 0 then encInt (nneg x.num) else if x.kind % 5 = 1 then encInt x.num else if x.kind % 5 = 2 then encText x.text else if x.kind % 5 = 3 then encList (x.nums.map encInt) else encList (x.texts.map encText) := rfl
  obtain ⟨vk0, vk1⟩ := hi.kind
  generalize x.enc = en at *
  obtain ⟨kind, num, text, nums, texts⟩ := x
  simp only at he vk0 vk1
  show Calls _ _ #[_, .agg #[.int .i64 kind, .int .i64 num, .string ⟨text.toArray⟩, vn, vt]] _ _
  have hkc := kind_any kind vk0 vk1 (.int .i64 num) (.string ⟨text.toArray⟩) vn vt (w.alloc (.cells #[.int .i64 kind, .int .i64 num, .string ⟨text.toArray⟩, vn, vt] 25))
  have hf0 : Fr [] w (w.alloc (.cells #[.int .i64 kind, .int .i64 num, .string ⟨text.toArray⟩, vn, vt] 25)) := by (repeat' (first | with_reducible exact Fr.refl _ _ | with_reducible assumption | with_reducible apply Fr.drew | with_reducible apply Fr.drewN | with_reducible apply Fr.alloc | (with_reducible refine Fr.set ?_ (.inr (by first | exact Nat.le_refl _ | exact Nat.le_succ _ | (simp; done) | (simp; omega))) _)))
  have Hf0 := Lib.hid hf0
  have hrow := row_new w 25 #[.int .i64 kind, .int .i64 num, .string ⟨text.toArray⟩, vn, vt] _ rfl
  have Hrow := Lib.hid hrow
  have hbx : w.heap.size < (w.alloc (.cells #[.int .i64 kind, .int .i64 num, .string ⟨text.toArray⟩, vn, vt] 25)).heap.size := by simp
  have Hbx := Lib.hid hbx
  clear h hv hi hs hr hf0 hrow hbx
  have hkd : kind % 5 = 0 ∨ kind % 5 = 1 ∨ kind % 5 = 2 ∨ kind % 5 = 3 ∨ kind % 5 = 4 := by omega
  rcases hkd with hk | hk | hk | hk | hk
  · rw [hk] at hkc he
    have Hkc := Lib.hid hkc
    have he' : en = encInt (nneg num) := by
      rw [he]
      rfl
    subst he'
    clear hkc hk he
    go_enter Tryd.func33, Tryd.ntmps33
    go_wp2_with fail
    refine Hkc.out.mono ?_
    rintro e w1 ⟨rfl, hf1⟩
    have hr1 := Row.fr Hrow.out hf1 (by simp)
    have Hf1 := Lib.hid ((Hf0.out.trans hf1).drew)
    have hz1 : w.heap.size < w1.heap.size := Nat.lt_of_lt_of_le Hbx.out hf1.size
    have c1 : w1.drew.cell? ⟨w.heap.size, 1, none⟩ = some (.int .i64 num) := by
      show w1.cell? _ = _
      rw [hr1.cell]
      rfl
    have hrd := num_any a (encInt (nneg num) ++ r) false B w1.drew (HR.out.fr Hf1.out (by simp)) (H.out.quiet Hf1.out) hB (by omega)
    rw [reads_nat.toEnc (nneg num) r (nneg_range num HI.out.num)] at hrd
    have Hrd := Lib.hid hrd
    clear hf1 hr1 hrd
    go_wp2_with fail
    go_region_held3 (fun wx => wx.cell? ⟨w.heap.size, 1, none⟩ = some (.int .i64 num)) (assumption) (first
      | (go_at_call 25; refine Hrd.out.mono ?_; rintro e w4 ⟨rfl, hr4, hf4⟩; have hc4 := keepc hf4 c1 hz1 (by simp; omega); have Hr4 := Lib.hid hr4; have Hf4 := Lib.hid hf4;  clear hr4 hf4)
      | (go_at_call 71; refine (number01_any num HI.out.num _).mono ?_; rintro e w5 ⟨rfl, rfl⟩))
    all_goals
      go_wp2
      go_ret
      exact ⟨rfl, Hr4.out, (Hf1.out.mono (by simp)).trans Hf4.out⟩
  · rw [hk] at hkc he
    have Hkc := Lib.hid hkc
    have he' : en = encInt num := by
      rw [he]
      rfl
    subst he'
    clear hkc hk he
    go_enter Tryd.func33, Tryd.ntmps33
    go_wp2_with fail
    refine Hkc.out.mono ?_
    rintro e w1 ⟨rfl, hf1⟩
    have hr1 := Row.fr Hrow.out hf1 (by simp)
    have Hf1 := Lib.hid ((Hf0.out.trans hf1).drew)
    have hz1 : w.heap.size < w1.heap.size := Nat.lt_of_lt_of_le Hbx.out hf1.size
    have c1 : w1.drew.cell? ⟨w.heap.size, 1, none⟩ = some (.int .i64 num) := by
      show w1.cell? _ = _
      rw [hr1.cell]
      rfl
    have hrd := int_any a (encInt num ++ r) false B w1.drew (HR.out.fr Hf1.out (by simp)) (H.out.quiet Hf1.out) hB (by omega)
    rw [reads_int.toEnc num r HI.out.num] at hrd
    have Hrd := Lib.hid hrd
    clear hf1 hr1 hrd
    go_wp2_with fail
    go_region_held3 (fun wx => wx.cell? ⟨w.heap.size, 1, none⟩ = some (.int .i64 num)) (assumption) (first
      | (go_at_call 26; refine Hrd.out.mono ?_; rintro e w4 ⟨rfl, hr4, hf4⟩; have hc4 := keepc hf4 c1 hz1 (by simp; omega); have Hr4 := Lib.hid hr4; have Hf4 := Lib.hid hf4;  clear hr4 hf4))
    all_goals
      go_wp2
      go_ret
      exact ⟨rfl, Hr4.out, (Hf1.out.mono (by simp)).trans Hf4.out⟩
  · rw [hk] at hkc he
    have Hkc := Lib.hid hkc
    have he' : en = encText text := by
      rw [he]
      rfl
    subst he'
    clear hkc hk he
    go_enter Tryd.func33, Tryd.ntmps33
    go_wp2_with fail
    refine Hkc.out.mono ?_
    rintro e w1 ⟨rfl, hf1⟩
    have hr1 := Row.fr Hrow.out hf1 (by simp)
    have Hf1 := Lib.hid ((Hf0.out.trans hf1).drew)
    have hz1 : w.heap.size < w1.heap.size := Nat.lt_of_lt_of_le Hbx.out hf1.size
    have c1 : w1.drew.cell? ⟨w.heap.size, 2, none⟩ = some (.string ⟨text.toArray⟩) := by
      show w1.cell? _ = _
      rw [hr1.cell]
      rfl
    have hrd := text_any a (encText text ++ r) false B w1.drew (HR.out.fr Hf1.out (by simp)) (H.out.quiet Hf1.out) hB (by omega)
    rw [reads_text.toEnc text r (by have : text.length ≤ 400 := HS.out.text; omega)] at hrd
    have Hrd := Lib.hid hrd
    clear hf1 hr1 hrd
    go_wp2_with fail
    go_region_held3 (fun wx => wx.cell? ⟨w.heap.size, 2, none⟩ = some (.string ⟨text.toArray⟩)) (assumption) (first
      | (go_at_call 27; refine Hrd.out.mono ?_; rintro e w4 ⟨rfl, hr4, hf4⟩; have hc4 := keepc hf4 c1 hz1 (by simp; omega); have Hr4 := Lib.hid hr4; have Hf4 := Lib.hid hf4;  clear hr4 hf4))
    all_goals
      go_wp2
      go_ret
      exact ⟨rfl, Hr4.out, (Hf1.out.mono (by simp)).trans Hf4.out⟩
  · rw [hk] at hkc he
    have Hkc := Lib.hid hkc
    have he' : en = encList (nums.map encInt) := by
      rw [he]
      rfl
    subst he'
    clear hkc hk he
    go_enter Tryd.func33, Tryd.ntmps33
    go_wp2_with fail
    refine Hkc.out.mono ?_
    rintro e w1 ⟨rfl, hf1⟩
    have hr1 := Row.fr Hrow.out hf1 (by simp)
    have Hf1 := Lib.hid ((Hf0.out.trans hf1).drew)
    have hz1 : w.heap.size < w1.heap.size := Nat.lt_of_lt_of_le Hbx.out hf1.size
    have c1 : w1.drew.cell? ⟨w.heap.size, 3, none⟩ = some (vn) := by
      show w1.cell? _ = _
      rw [hr1.cell]
      rfl
    have hrd := rnums_any a (encList (nums.map encInt) ++ r) false B w1.drew (HR.out.fr Hf1.out (by simp)) (H.out.quiet Hf1.out) hB (by omega)
    rw [rlist_enc reads_int nums HI.out.nums (by have : nums.length ≤ 400 := HS.out.nums; omega) r] at hrd
    have Hrd := Lib.hid hrd
    clear hf1 hr1 hrd
    go_wp2_with fail
    go_region_held3 (fun wx => wx.cell? ⟨w.heap.size, 3, none⟩ = some (vn)) (assumption) (first
      | (go_at_call 28; refine Hrd.out.mono ?_; rintro e w4 ⟨v, rfl, hown, hr4, hf4⟩; have hc4 := keepc hf4 c1 hz1 (by simp; omega); have Hr4 := Lib.hid hr4; have Hf4 := Lib.hid hf4; have Hsl : Hid (SL w4.heap.size w4 v nums.length (nums.map (Value.int .i64))) := SL.own hown (Nat.le_refl _) (by have : nums.length ≤ 400 := HS.out.nums; omega); clear hown; clear hr4 hf4)
      | (go_at_call 38; refine (same_int nums Hsl.out ((HV.out.1.quiet Hf1.out).fr Hf4.out (by simp; omega)) (by have : nums.length ≤ 400 := HS.out.nums; omega)).mono ?_; rintro e w5 ⟨rfl, hf5⟩; have hc5 := keepc hf5 hc4 (Nat.lt_of_lt_of_le hz1 Hf4.out.size) (by simp); have Hr5 := Lib.hid (Hr4.out.fr hf5 (by simp)); have Hf5 := Lib.hid hf5; clear hf5))
    go_wp2
    go_ret
    exact ⟨rfl, Hr5.out, ((Hf1.out.mono (by simp)).trans Hf4.out).trans (Hf5.out.mono (by simp))⟩
  · rw [hk] at hkc he
    have Hkc := Lib.hid hkc
    have he' : en = encList (texts.map encText) := by
      rw [he]
      rfl
    subst he'
    clear hkc hk he
    go_enter Tryd.func33, Tryd.ntmps33
    go_wp2_with fail
    refine Hkc.out.mono ?_
    rintro e w1 ⟨rfl, hf1⟩
    have hr1 := Row.fr Hrow.out hf1 (by simp)
    have Hf1 := Lib.hid ((Hf0.out.trans hf1).drew)
    have hz1 : w.heap.size < w1.heap.size := Nat.lt_of_lt_of_le Hbx.out hf1.size
    have c1 : w1.drew.cell? ⟨w.heap.size, 4, none⟩ = some (vt) := by
      show w1.cell? _ = _
      rw [hr1.cell]
      rfl
    have hrd := rtexts_any a (encList (texts.map encText) ++ r) false B w1.drew (HR.out.fr Hf1.out (by simp)) (H.out.quiet Hf1.out) hB (by omega)
    rw [rlist_enc reads_text texts (fun t ht => by have : t.length ≤ 400 := HS.out.each t ht; omega) (by have : texts.length ≤ 400 := HS.out.texts; omega) r] at hrd
    have Hrd := Lib.hid hrd
    clear hf1 hr1 hrd
    go_wp2_with fail
    go_region_held3 (fun wx => wx.cell? ⟨w.heap.size, 4, none⟩ = some (vt)) (assumption) (first
      | (go_at_call 29; refine Hrd.out.mono ?_; rintro e w4 ⟨v, rfl, hown, hr4, hf4⟩; have hc4 := keepc hf4 c1 hz1 (by simp; omega); have Hr4 := Lib.hid hr4; have Hf4 := Lib.hid hf4; have Hsl : Hid (SL w4.heap.size w4 v texts.length (texts.map bsv)) := SL.own hown (Nat.le_refl _) (by have : texts.length ≤ 400 := HS.out.texts; omega); clear hown; clear hr4 hf4)
      | (go_at_call 40; refine (same_str texts Hsl.out ((HV.out.2.quiet Hf1.out).fr Hf4.out (by simp; omega)) (by have : texts.length ≤ 400 := HS.out.texts; omega)).mono ?_; rintro e w5 ⟨rfl, hf5⟩; have hc5 := keepc hf5 hc4 (Nat.lt_of_lt_of_le hz1 Hf4.out.size) (by simp); have Hr5 := Lib.hid (Hr4.out.fr hf5 (by simp)); have Hf5 := Lib.hid hf5; clear hf5))
    go_wp2
    go_ret
    exact ⟨rfl, Hr5.out, ((Hf1.out.mono (by simp)).trans Hf4.out).trans (Hf5.out.mono (by simp))⟩

end Go.Proofs.YthajdajhclpaaaaDoor
