/- Layer 1: the law's values; write. (Printed by genlaw01.py.) -/
import Derived.Test.YthajdajhclpaaaaDoorAgainW
import Derived.Deep.RegionHeld3
namespace Go.Proofs.YthajdajhclpaaaaDoor
open Go.RowKit Go.Shelf Wr

/-- A value of the law. -/
structure Wv where
  kind : Int
  num : Int
  text : List UInt8
  nums : List Int
  texts : List (List UInt8)
/-- No negative number. -/
def nneg (n : Int) : Int := if n < 0 then -(n + 1) else n
theorem nneg_range (n : Int) (h : I64 n) : 0 ≤ nneg n ∧ I64 (nneg n) := by
  unfold nneg
  unfold I64 at *
  split <;> omega
def Wv.enc (x : Wv) : List UInt8 :=
  if x.kind % 5 = 0 then encInt (nneg x.num) else if x.kind % 5 = 1 then encInt x.num else if x.kind % 5 = 2 then encText x.text else if x.kind % 5 = 3 then encList (x.nums.map encInt) else encList (x.texts.map encText)
structure Wv.Int64 (x : Wv) : Prop where
  kind : I64 x.kind
  num : I64 x.num
  nums : ∀ n, n ∈ x.nums → I64 n
structure Wv.Small (x : Wv) : Prop where
  text : x.text.length ≤ 400
  nums : x.nums.length ≤ 400
  texts : x.texts.length ≤ 400
  each : ∀ t, t ∈ x.texts → t.length ≤ 400
def wcells (x : Wv) (vn vt : Value) : List Value := [.int .i64 x.kind, .int .i64 x.num, .string ⟨x.text.toArray⟩, vn, vt]
def VL (B : Nat) (w : World) (x : Wv) (vn vt : Value) : Prop := SL B w vn x.nums.length (x.nums.map (Value.int .i64)) ∧ SL B w vt x.texts.length (x.texts.map bsv)
theorem VL.quiet {B : Nat} {w w' : World} {x : Wv} {vn vt : Value} (h : VL B w x vn vt) (hf : Fr [] w w') : VL B w' x vn vt := ⟨h.1.quiet hf, h.2.quiet hf⟩
theorem VL.fr {B : Nat} {w w' : World} {x : Wv} {vn vt : Value} {S : List Nat} (h : VL B w x vn vt) (hf : Fr S w w') (hS : ∀ k, k ∈ S → B ≤ k) : VL B w' x vn vt := ⟨h.1.fr hf hS, h.2.fr hf hS⟩

theorem number01_any (n : Int) (hn : I64 n) (w : World) : Calls Tryd.prog 71 #[.int .i64 n] w fun e w' => e = .returned (.int .i64 (nneg n)) ∧ w' = w := by
  obtain ⟨h0, h1⟩ := hn
  by_cases hc : n < 0
  · have hw : IntKind.i64.wrap (n + 1) = n + 1 := by rw [IntKind.wrap_i64]; omega
    have hw2 : IntKind.i64.wrap (-(n + 1)) = -(n + 1) := by rw [IntKind.wrap_i64]; omega
    have he : Hid (nneg n = -(n + 1)) := by
      show _ = _
      unfold nneg
      rw [if_pos hc]
    go_enter Tryd.func71, Tryd.ntmps71
    go_wp2
    go_ret
    rw [he.out]
    exact ⟨congrArg (fun z => Ending.returned (.int .i64 z)) (by omega), rfl⟩
  · have he : Hid (nneg n = n) := by
      show _ = _
      unfold nneg
      rw [if_neg hc]
    have hc' : decide (n < 0) = false := decide_eq_false hc
    go_enter Tryd.func71, Tryd.ntmps71
    go_wp2
    go_ret
    rw [he.out]
    exact ⟨rfl, rfl⟩

theorem texts_bound (l : List (List UInt8)) (h : ∀ t, t ∈ l → t.length ≤ 400) : ((l.map encText).flatten).length ≤ l.length * 500 := by
  induction l with
  | nil => exact Nat.zero_le _
  | cons t l ih =>
    have h1 := ih (fun u hu => h u (by simp [hu]))
    have h2 := h t (by simp)
    have h3 := itoa_len (t.length : Int) (by omega) (by omega)
    rw [List.map_cons, List.flatten_cons, List.length_append, List.length_cons]
    have h4 : (encText t).length ≤ 500 := by
      unfold encText
      rw [List.length_append, List.length_append, List.length_append]
      simp
      omega
    omega
theorem nums_bound (l : List Int) (h : ∀ n, n ∈ l → I64 n) : ((l.map encInt).flatten).length ≤ l.length * 21 := by
  induction l with
  | nil => exact Nat.zero_le _
  | cons t l ih =>
    have h1 := ih (fun u hu => h u (by simp [hu]))
    have h2 := encInt_len t (h t (by simp))
    rw [List.map_cons, List.flatten_cons, List.length_append, List.length_cons]
    omega
theorem enc_bound (x : Wv) (hi : x.Int64) (hs : x.Small) : x.enc.length ≤ 200100 := by
  unfold Wv.enc
  have h1 := encInt_len _ (nneg_range _ hi.num).2
  have h2 := encInt_len _ hi.num
  have h3 := texts_bound x.texts hs.each
  have h4 := nums_bound x.nums hi.nums
  have h5 := hs.texts
  have h6 := hs.nums
  have h7 : (encText x.text).length ≤ 500 := by
    have h8 := hs.text
    have h9 := itoa_len (x.text.length : Int) (by omega) (by omega)
    unfold encText
    rw [List.length_append, List.length_append, List.length_append]
    simp
    omega
  have hl : ∀ xs : List (List UInt8), xs.length ≤ 400 → (encList xs).length ≤ 30 + xs.flatten.length := by
    intro xs hx
    have h9 := itoa_len (xs.length : Int) (by omega) (by omega)
    unfold encList
    rw [List.length_append, List.length_append, List.length_append]
    simp
    omega
  have h10 := hl (x.nums.map encInt) (by rw [List.length_map]; omega)
  have h11 := hl (x.texts.map encText) (by rw [List.length_map]; omega)
  split
  · omega
  · split
    · omega
    · split
      · omega
      · split
        · omega
        · omega

set_option maxRecDepth 100000 in
set_option maxHeartbeats 2000000 in
theorem write_any (x : Wv) (vn vt : Value) (B B0 : Nat) (w : World) (h : LW B w) (hv : VL B0 w x vn vt) (hi : x.Int64) (hs : x.Small) :
    Calls Tryd.prog 32 #[.agg (wcells x vn vt).toArray] w fun e w' => e = .returned (.string ⟨x.enc.toArray⟩) ∧ Fr [] w w' := by
  have H := Lib.hid h
  have HV := Lib.hid hv
  have HI := Lib.hid hi
  have HS := Lib.hid hs
  have he : x.enc = if x.kind % 5 = 0 then encInt (nneg x.num) else if x.kind % 5 = 1 then encInt x.num else if x.kind % 5 = 2 then encText x.text else if x.kind % 5 = 3 then encList (x.nums.map encInt) else encList (x.texts.map encText) := rfl
  obtain ⟨vk0, vk1⟩ := hi.kind
  have Hb3 := Lib.hid (texts_bound x.texts hs.each)
  have Hb4 := Lib.hid (nums_bound x.nums hi.nums)
  generalize x.enc = en at *
  obtain ⟨kind, num, text, nums, texts⟩ := x
  simp only at he vk0 vk1
  show Calls _ _ #[.agg #[.int .i64 kind, .int .i64 num, .string ⟨text.toArray⟩, vn, vt]] _ _
  have hkc := kind_any kind vk0 vk1 (.int .i64 num) (.string ⟨text.toArray⟩) vn vt (w.alloc (.cells #[.int .i64 kind, .int .i64 num, .string ⟨text.toArray⟩, vn, vt] 25))
  have hf0 : Fr [] w (w.alloc (.cells #[.int .i64 kind, .int .i64 num, .string ⟨text.toArray⟩, vn, vt] 25)) := by (repeat' (first | with_reducible exact Fr.refl _ _ | with_reducible assumption | with_reducible apply Fr.drew | with_reducible apply Fr.drewN | with_reducible apply Fr.alloc | (with_reducible refine Fr.set ?_ (.inr (by first | exact Nat.le_refl _ | exact Nat.le_succ _ | (simp; done) | (simp; omega))) _)))
  have Hf0 := Lib.hid hf0
  have hrow := row_new w 25 #[.int .i64 kind, .int .i64 num, .string ⟨text.toArray⟩, vn, vt] _ rfl
  have Hrow := Lib.hid hrow
  clear h hv hi hs hf0 hrow
  have hkd : kind % 5 = 0 ∨ kind % 5 = 1 ∨ kind % 5 = 2 ∨ kind % 5 = 3 ∨ kind % 5 = 4 := by omega
  rcases hkd with hk | hk | hk | hk | hk
  · rw [hk] at hkc he
    have Hkc := Lib.hid hkc
    have He : Hid (en = encInt (nneg num)) := by
      show _ = _
      rw [he]
      rfl
    clear hkc hk he
    go_enter Tryd.func32, Tryd.ntmps32
    go_wp2_with fail
    refine Hkc.out.mono ?_
    rintro e w1 ⟨rfl, hf1⟩
    have hr1 := Row.fr Hrow.out hf1 (by simp)
    have Hf1 := Lib.hid (Hf0.out.trans hf1)
    have c1 : w1.cell? ⟨w.heap.size, 1, none⟩ = some (.int .i64 num) := by rw [hr1.cell]; rfl
    clear hf1 hr1
    go_wp2_with fail
    refine (number01_any num HI.out.num _).mono ?_
    rintro e w1' ⟨rfl, rfl⟩
    go_wp2_with fail
    refine (wnum_any (H.out.quiet Hf1.out) (nneg num) (nneg_range num HI.out.num).2).mono ?_
    rw [if_neg (by have := (nneg_range num HI.out.num).1; omega)]
    rintro e w2 ⟨rfl, hf2⟩
    have Hf2 := Lib.hid (Hf1.out.trans hf2)
    clear hf2
    go_wp2
    go_ret
    rw [He.out]
    exact ⟨rfl, Hf2.out⟩
  · rw [hk] at hkc he
    have Hkc := Lib.hid hkc
    have He : Hid (en = encInt num) := by
      show _ = _
      rw [he]
      rfl
    clear hkc hk he
    go_enter Tryd.func32, Tryd.ntmps32
    go_wp2_with fail
    refine Hkc.out.mono ?_
    rintro e w1 ⟨rfl, hf1⟩
    have hr1 := Row.fr Hrow.out hf1 (by simp)
    have Hf1 := Lib.hid (Hf0.out.trans hf1)
    have c1 : w1.cell? ⟨w.heap.size, 1, none⟩ = some (.int .i64 num) := by rw [hr1.cell]; rfl
    clear hf1 hr1
    go_wp2_with fail
    refine (wint_any (H.out.quiet Hf1.out) num HI.out.num).mono ?_
    skip
    rintro e w2 ⟨rfl, hf2⟩
    have Hf2 := Lib.hid (Hf1.out.trans hf2)
    clear hf2
    go_wp2
    go_ret
    rw [He.out]
    exact ⟨rfl, Hf2.out⟩
  · rw [hk] at hkc he
    have Hkc := Lib.hid hkc
    have He : Hid (en = encText text) := by
      show _ = _
      rw [he]
      rfl
    clear hkc hk he
    go_enter Tryd.func32, Tryd.ntmps32
    go_wp2_with fail
    refine Hkc.out.mono ?_
    rintro e w1 ⟨rfl, hf1⟩
    have hr1 := Row.fr Hrow.out hf1 (by simp)
    have Hf1 := Lib.hid (Hf0.out.trans hf1)
    have c2 : w1.cell? ⟨w.heap.size, 2, none⟩ = some (.string ⟨text.toArray⟩) := by rw [hr1.cell]; rfl
    clear hf1 hr1
    go_wp2_with fail
    refine (wtext_any (H.out.quiet Hf1.out) ⟨text.toArray⟩ (by rw [size_l]; have : text.length ≤ 400 := HS.out.text; omega)).mono ?_
    skip
    rintro e w2 ⟨rfl, hf2⟩
    have Hf2 := Lib.hid (Hf1.out.trans hf2)
    clear hf2
    go_wp2
    go_ret
    rw [He.out]
    exact ⟨rfl, Hf2.out⟩
  · rw [hk] at hkc he
    have Hkc := Lib.hid hkc
    have He : Hid (en = encList (nums.map encInt)) := by
      show _ = _
      rw [he]
      rfl
    clear hkc hk he
    go_enter Tryd.func32, Tryd.ntmps32
    go_wp2_with fail
    refine Hkc.out.mono ?_
    rintro e w1 ⟨rfl, hf1⟩
    have hr1 := Row.fr Hrow.out hf1 (by simp)
    have Hf1 := Lib.hid (Hf0.out.trans hf1)
    have c3 : w1.cell? ⟨w.heap.size, 3, none⟩ = some (vn) := by rw [hr1.cell]; rfl
    clear hf1 hr1
    go_wp2_with fail
    refine (wnums_any nums (H.out.quiet Hf1.out) HI.out.nums (by have : nums.length ≤ 400 := HS.out.nums; omega) (by have h1 : nums.length ≤ 400 := HS.out.nums; have h2 : ((nums.map encInt).flatten).length ≤ nums.length * 21 := Hb4.out; omega) (HV.out.1.quiet Hf1.out)).mono ?_
    skip
    rintro e w2 ⟨rfl, hf2⟩
    have Hf2 := Lib.hid (Hf1.out.trans hf2)
    clear hf2
    go_wp2
    go_ret
    rw [He.out]
    exact ⟨rfl, Hf2.out⟩
  · rw [hk] at hkc he
    have Hkc := Lib.hid hkc
    have He : Hid (en = encList (texts.map encText)) := by
      show _ = _
      rw [he]
      rfl
    clear hkc hk he
    go_enter Tryd.func32, Tryd.ntmps32
    go_wp2_with fail
    refine Hkc.out.mono ?_
    rintro e w1 ⟨rfl, hf1⟩
    have hr1 := Row.fr Hrow.out hf1 (by simp)
    have Hf1 := Lib.hid (Hf0.out.trans hf1)
    have c4 : w1.cell? ⟨w.heap.size, 4, none⟩ = some (vt) := by rw [hr1.cell]; rfl
    clear hf1 hr1
    go_wp2_with fail
    refine (wtexts_any texts (H.out.quiet Hf1.out) (fun t ht => by have : t.length ≤ 400 := HS.out.each t ht; omega) (by have : texts.length ≤ 400 := HS.out.texts; omega) (by have h1 : texts.length ≤ 400 := HS.out.texts; have h2 : ((texts.map encText).flatten).length ≤ texts.length * 500 := Hb3.out; omega) (HV.out.2.quiet Hf1.out)).mono ?_
    skip
    rintro e w2 ⟨rfl, hf2⟩
    have Hf2 := Lib.hid (Hf1.out.trans hf2)
    clear hf2
    go_wp2
    go_ret
    rw [He.out]
    exact ⟨rfl, Hf2.out⟩

end Go.Proofs.YthajdajhclpaaaaDoor
