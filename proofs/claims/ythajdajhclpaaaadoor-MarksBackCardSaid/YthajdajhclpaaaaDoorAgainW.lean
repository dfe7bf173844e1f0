/- Layer 1: WireAgain. -/
import Derived.Test.YthajdajhclpaaaaDoorWireS
namespace Go.Proofs.YthajdajhclpaaaaDoor
open Go.RowKit Go.Shelf Wr

/-- The kind of a value. -/
theorem kind_any (n : Int) (h0 : -9223372036854775808 ≤ n) (h1 : n ≤ 9223372036854775807) (r1 r2 r3 r4 : Value) (w : World) : Calls Tryd.prog 24 #[.agg #[.int .i64 n, r1, r2, r3, r4]] w fun e w' => e = .returned (.int .i64 (n % 5)) ∧ Fr [] w w' := by
  have hm : n % 5 = if n.tmod 5 < 0 then n.tmod 5 + 5 else n.tmod 5 := by
    have h2 := Int.tmod_eq_emod (a := n) (b := 5)
    split at h2 <;> split <;> omega
  have hb : -5 < n.tmod 5 ∧ n.tmod 5 < 5 := by
    have h2 := Int.tmod_eq_emod (a := n) (b := 5)
    split at h2 <;> omega
  obtain ⟨hb0, hb1⟩ := hb
  have Hm := Lib.hid hm
  clear hm
  generalize hr : n.tmod 5 = r at *
  go_enter Tryd.func24, Tryd.ntmps24
  go_wp2
  all_goals
    go_ret
    exact ⟨congrArg (fun z => Ending.returned (.int .i64 z)) (by rw [Hm.out]; first | rw [if_pos ‹_›] | rw [if_neg (by omega)]), by (repeat' (first | with_reducible exact Fr.refl _ _ | with_reducible assumption | with_reducible apply Fr.drew | with_reducible apply Fr.drewN | with_reducible apply Fr.alloc | (with_reducible refine Fr.set ?_ (.inr (by first | exact Nat.le_refl _ | exact Nat.le_succ _ | (simp; done) | (simp; omega))) _)))⟩

theorem reads_nat : Reads rnat encInt (fun x => 0 ≤ x ∧ I64 x) := ⟨fun x r hx => by
    have := rnum_enc 59 ends59 0 x hx.2 hx.1 r false
    unfold rnat
    rw [show encInt x ++ r = Lib.itoa x ++ 59 :: r by simp [encInt]]
    exact this, fun s h => by
    obtain ⟨h1, h2, h3, h4⟩ := rnum_dec 59 0 s h
    exact ⟨h1, by rw [show encInt (rnat s).1 ++ (rnat s).2.1 = Lib.itoa (rnat s).1 ++ 59 :: (rnat s).2.1 by simp [encInt]]; exact h2, h3, h4⟩, fun s h => rnum_ok _ _ s h, fun s => rnum_len _ _ s⟩
theorem rtext_fail (s : Rd) (h : (rtext s).2.2 = true) : (rtext s).1 = [] := by
  unfold rtext at h ⊢
  split
  · rfl
  · split
    · rfl
    · rename_i h1 h2
      rw [if_neg h1, if_neg h2] at h
      exact absurd h h2
theorem rlist_fail {α : Type} (one : Rd → α × Rd) (s : Rd) (h : (rlist one s).2.2 = true) : (rlist one s).1 = [] := by
  unfold rlist at h ⊢
  split
  · rfl
  · rename_i h2
    rw [if_neg h2] at h
    exact absurd h h2
theorem enc_pos_int (x : Int) : 1 ≤ (encInt x).length := by unfold encInt; rw [List.length_append]; simp
theorem enc_pos_text (x : List UInt8) : 1 ≤ (encText x).length := by unfold encText; rw [List.length_append]; simp
theorem flat_pos {α : Type} (enc : α → List UInt8) (h : ∀ x, 1 ≤ (enc x).length) (xs : List α) : xs.length ≤ ((xs.map enc).flatten).length := by
  induction xs with
  | nil => exact Nat.zero_le _
  | cons x xs ih =>
    have := h x
    rw [List.map_cons, List.flatten_cons, List.length_append, List.length_cons]
    omega
theorem flat_mem {α : Type} (enc : α → List UInt8) (xs : List α) (x : α) (h : x ∈ xs) : (enc x).length ≤ ((xs.map enc).flatten).length := by
  induction xs with
  | nil => cases h
  | cons y xs ih =>
    rw [List.map_cons, List.flatten_cons, List.length_append]
    rcases List.mem_cons.1 h with rfl | h
    · omega
    · have := ih h
      omega
theorem list_len (xs : List (List UInt8)) : xs.flatten.length ≤ (encList xs).length := by
  unfold encList
  rw [List.length_append, List.length_append, List.length_append]
  omega
theorem text_len (x : List UInt8) : x.length ≤ (encText x).length := by
  unfold encText
  rw [List.length_append, List.length_append, List.length_append]
  omega
/-- What of a list was read, or what is left of a failure, is small. -/
theorem rlist_small {α : Type} {one : Rd → α × Rd} {enc : α → List UInt8} {good : α → Prop} (h : Reads one enc good) (hp : ∀ x, 1 ≤ (enc x).length) (l : List UInt8) (hl : l.length ≤ 400) :
    (rlist one (l, false)).1.length ≤ 400 ∧ (((rlist one (l, false)).1.map enc).flatten).length ≤ 400 ∧ (∀ x, x ∈ (rlist one (l, false)).1 → good x ∧ (enc x).length ≤ 400) ∧ ((rlist one (l, false)).2.2 = false → l = encList ((rlist one (l, false)).1.map enc) ++ (rlist one (l, false)).2.1) := by
  cases hf : (rlist one (l, false)).2.2 with
  | true =>
    rw [rlist_fail one _ hf]
    exact ⟨Nat.zero_le _, Nat.zero_le _, (fun x hx => by cases hx), (fun h => by cases h)⟩
  | false =>
    obtain ⟨_, h2, h3, _⟩ := rlist_dec h (l, false) hf
    have h2' : l = encList ((rlist one (l, false)).1.map enc) ++ (rlist one (l, false)).2.1 := h2
    have h4 := congrArg List.length h2'
    rw [List.length_append] at h4
    have h5 := list_len ((rlist one (l, false)).1.map enc)
    have h6 := flat_pos enc hp (rlist one (l, false)).1
    exact ⟨by omega, by omega, fun x hx => ⟨h3 x hx, by have := flat_mem enc _ x hx; omega⟩, fun _ => h2'⟩

theorem again_any (l : List UInt8) (what : Int) (h0 : -9223372036854775808 ≤ what) (h1 : what ≤ 9223372036854775807) {B : Nat} (w : World) (h : LW B w) :
    Calls Tryd.prog 4 #[.string ⟨l.toArray⟩, .int .i64 what] w fun e w' => e = .returned (.bool true) ∧ Fr [] w w' := by
  have H := Lib.hid h
  have Hs := Lib.hid (small01_any w h)
  clear h
  by_cases hlen : (400 : Int) < l.length
  · go_enter Tryd.func4, Tryd.ntmps4
    go_wp2_with fail
    refine Hs.out.mono ?_
    rintro e w1 ⟨rfl, hf⟩
    have Hf := Lib.hid hf
    clear hf
    go_wp2
    go_ret
    exact ⟨rfl, Hf.out⟩
  · have hlen' : (l.length : Int) ≤ 400 := by omega
    go_enter Tryd.func4, Tryd.ntmps4
    go_wp2_with fail
    refine Hs.out.mono ?_
    rintro e w1 ⟨rfl, hf⟩
    have Hf := Lib.hid hf
    clear hf
    go_wp2_with fail
    refine (open_any l _).mono ?_
    rintro e w2 ⟨a, rfl, ha, hr, hf⟩
    have Hf2 := Lib.hid (Hf.out.trans hf)
    have Hr := Lib.hid hr
    have hwa : w.heap.size ≤ a := Nat.le_trans Hf.out.size ha
    clear hf hr ha
    have hkc := kind_any what h0 h1 (.int .i64 0) (.string ⟨#[]⟩) (.slice none 0 0) (.slice none 0 0) w2
    have hkd : what % 5 = 0 ∨ what % 5 = 1 ∨ what % 5 = 2 ∨ what % 5 = 3 ∨ what % 5 = 4 := by omega
    rcases hkd with hk | hk | hk | hk | hk
    · rw [hk] at hkc
      have Hkc := Lib.hid hkc
      clear hkc hk
      go_wp2_with fail
      refine Hkc.out.mono ?_
      rintro e w3 ⟨rfl, hf3⟩
      have Hf3 := Lib.hid (Hf2.out.trans hf3)
      have hr3 : RdIs w3 a (l, false) := Hr.out.fr hf3 (by simp)
      have hrd := num_any a l false B w3 hr3 (H.out.quiet Hf3.out) (Nat.le_trans H.out.le hwa) (by omega)
      have hdec : (rnat (l, false)).2.2 = false → l = encInt (rnat (l, false)).1 ++ (rnat (l, false)).2.1 := fun h => (reads_nat.ofEnc (l, false) h).2.1
      have hgood : 0 ≤ (rnat (l, false)).1 ∧ I64 (rnat (l, false)).1 := ⟨(rnum_bounds 59 0 (by decide) ⟨by decide, by decide⟩ l false).1, (rnum_bounds 59 0 (by decide) ⟨by decide, by decide⟩ l false).2.1⟩
      have hle : (rnat (l, false)).2.1.length ≤ l.length := (reads_nat.less (l, false)).1
      have hok : (rnat (l, false)).2.2 = true → (rnat (l, false)).2.1 = [] := reads_nat.keepOk (l, false) (fun h => by cases h)
      clear hf3 hr3
      generalize rnat (l, false) = q at *
      obtain ⟨x, l2, f2⟩ := q
      simp only at hrd hle hok hdec hgood
      have Hrd := Lib.hid hrd
      have Hdec := Lib.hid hdec
      have Hok := Lib.hid hok
      have Hgood := Lib.hid hgood
      clear hrd hdec hok hgood
      go_wp2_with fail
      refine Hrd.out.mono ?_
      rintro e w4 ⟨rfl, hr4, hf4⟩
      have Hf4 := Lib.hid (Hf3.out.then hf4 (fun i hi => .inr (by have e : i = a := (by simpa using hi); omega)))
      have Hr4 := Lib.hid hr4
      skip
      clear hr4 hf4
      go_wp2_with fail
      refine (wnum_any (H.out.quiet Hf4.out) x Hgood.out.2).mono ?_
      rw [if_neg (by have := Hgood.out.1; omega)]
      rintro e w5 ⟨rfl, hf5⟩
      have Hr5 := Lib.hid (Hr4.out.fr hf5 (by simp))
      have Hf5 := Lib.hid (Hf4.out.trans hf5)
      clear hf5
      have HL := Lib.hid (left_any a (l2, f2) _ Hr5.out (by show l2.length ≤ _; omega))
      have HD := Lib.hid (done_any a (l2, f2) _ Hr5.out)
      cases f2 with
      | true =>
        have hl20 : l2 = [] := Hok.out rfl
        subst hl20
        clear Hok Hdec
        go_wp2_with (first
          | (go_at_call 30; refine HL.out.mono ?_; rintro e w6 ⟨rfl, rfl⟩)
          | (go_at_call 31; refine HD.out.mono ?_; rintro e w7 ⟨rfl, rfl⟩))
        go_ret
        exact ⟨rfl, Hf5.out⟩
      | false =>
        have hq := Hdec.out rfl
        generalize encInt x = t at *
        have hlq : l.length = t.length + l2.length := by rw [hq, List.length_append]
        have hsub : IntKind.i64.wrap ((l.length : Int) - (l2.length : Int)) = (t.length : Int) := by rw [IntKind.wrap_i64]; omega
        have hmin2 : min (t.length : Int) (l.length : Int) = (t.length : Int) := by omega
        have hmax : max (0 : Int) (t.length : Int) = (t.length : Int) := by omega
        have ht1 : (t.length : Int) ≤ l.length := by omega
        have ht2 : t.length ≤ l.length := by omega
        have hex : (⟨l.toArray⟩ : ByteArray).extract 0 t.length = ⟨t.toArray⟩ := by
          rw [ext_take]
          conv => lhs; rw [hq, List.take_left]
        have Hlq := Lib.hid hlq
        clear hlq hq Hdec Hok
        cases l2 with
        | nil =>
          have hex0 : (⟨l.toArray⟩ : ByteArray).extract 0 l.length = ⟨t.toArray⟩ := by
            rw [Hlq.out]
            exact hex
          go_wp2_with (first
            | (go_at_call 30; refine HL.out.mono ?_; rintro e w6 ⟨rfl, rfl⟩)
            | (go_at_call 31; refine HD.out.mono ?_; rintro e w7 ⟨rfl, rfl⟩))
          go_ret
          exact ⟨rfl, Hf5.out⟩
        | cons c2 r2 =>
          have hc2 : ¬ (c2 :: r2) = [] := by simp
          generalize c2 :: r2 = l2 at *
          go_wp2_with (first
            | (go_at_call 30; refine HL.out.mono ?_; rintro e w6 ⟨rfl, rfl⟩)
            | (go_at_call 31; refine HD.out.mono ?_; rintro e w7 ⟨rfl, rfl⟩))
          go_ret
          exact ⟨rfl, Hf5.out⟩
    · rw [hk] at hkc
      have Hkc := Lib.hid hkc
      clear hkc hk
      go_wp2_with fail
      refine Hkc.out.mono ?_
      rintro e w3 ⟨rfl, hf3⟩
      have Hf3 := Lib.hid (Hf2.out.trans hf3)
      have hr3 : RdIs w3 a (l, false) := Hr.out.fr hf3 (by simp)
      have hrd := int_any a l false B w3 hr3 (H.out.quiet Hf3.out) (Nat.le_trans H.out.le hwa) (by omega)
      have hdec : (rint (l, false)).2.2 = false → l = encInt (rint (l, false)).1 ++ (rint (l, false)).2.1 := fun h => (reads_int.ofEnc (l, false) h).2.1
      have hgood : I64 (rint (l, false)).1 := (rnum_bounds 59 (-9223372036854775808) (by decide) ⟨by decide, by decide⟩ l false).2.1
      have hle : (rint (l, false)).2.1.length ≤ l.length := (reads_int.less (l, false)).1
      have hok : (rint (l, false)).2.2 = true → (rint (l, false)).2.1 = [] := reads_int.keepOk (l, false) (fun h => by cases h)
      clear hf3 hr3
      generalize rint (l, false) = q at *
      obtain ⟨x, l2, f2⟩ := q
      simp only at hrd hle hok hdec hgood
      have Hrd := Lib.hid hrd
      have Hdec := Lib.hid hdec
      have Hok := Lib.hid hok
      have Hgood := Lib.hid hgood
      clear hrd hdec hok hgood
      go_wp2_with fail
      refine Hrd.out.mono ?_
      rintro e w4 ⟨rfl, hr4, hf4⟩
      have Hf4 := Lib.hid (Hf3.out.then hf4 (fun i hi => .inr (by have e : i = a := (by simpa using hi); omega)))
      have Hr4 := Lib.hid hr4
      skip
      clear hr4 hf4
      go_wp2_with fail
      refine (wint_any (H.out.quiet Hf4.out) x Hgood.out).mono ?_
      skip
      rintro e w5 ⟨rfl, hf5⟩
      have Hr5 := Lib.hid (Hr4.out.fr hf5 (by simp))
      have Hf5 := Lib.hid (Hf4.out.trans hf5)
      clear hf5
      have HL := Lib.hid (left_any a (l2, f2) _ Hr5.out (by show l2.length ≤ _; omega))
      have HD := Lib.hid (done_any a (l2, f2) _ Hr5.out)
      cases f2 with
      | true =>
        have hl20 : l2 = [] := Hok.out rfl
        subst hl20
        clear Hok Hdec
        go_wp2_with (first
          | (go_at_call 30; refine HL.out.mono ?_; rintro e w6 ⟨rfl, rfl⟩)
          | (go_at_call 31; refine HD.out.mono ?_; rintro e w7 ⟨rfl, rfl⟩))
        go_ret
        exact ⟨rfl, Hf5.out⟩
      | false =>
        have hq := Hdec.out rfl
        generalize encInt x = t at *
        have hlq : l.length = t.length + l2.length := by rw [hq, List.length_append]
        have hsub : IntKind.i64.wrap ((l.length : Int) - (l2.length : Int)) = (t.length : Int) := by rw [IntKind.wrap_i64]; omega
        have hmin2 : min (t.length : Int) (l.length : Int) = (t.length : Int) := by omega
        have hmax : max (0 : Int) (t.length : Int) = (t.length : Int) := by omega
        have ht1 : (t.length : Int) ≤ l.length := by omega
        have ht2 : t.length ≤ l.length := by omega
        have hex : (⟨l.toArray⟩ : ByteArray).extract 0 t.length = ⟨t.toArray⟩ := by
          rw [ext_take]
          conv => lhs; rw [hq, List.take_left]
        have Hlq := Lib.hid hlq
        clear hlq hq Hdec Hok
        cases l2 with
        | nil =>
          have hex0 : (⟨l.toArray⟩ : ByteArray).extract 0 l.length = ⟨t.toArray⟩ := by
            rw [Hlq.out]
            exact hex
          go_wp2_with (first
            | (go_at_call 30; refine HL.out.mono ?_; rintro e w6 ⟨rfl, rfl⟩)
            | (go_at_call 31; refine HD.out.mono ?_; rintro e w7 ⟨rfl, rfl⟩))
          go_ret
          exact ⟨rfl, Hf5.out⟩
        | cons c2 r2 =>
          have hc2 : ¬ (c2 :: r2) = [] := by simp
          generalize c2 :: r2 = l2 at *
          go_wp2_with (first
            | (go_at_call 30; refine HL.out.mono ?_; rintro e w6 ⟨rfl, rfl⟩)
            | (go_at_call 31; refine HD.out.mono ?_; rintro e w7 ⟨rfl, rfl⟩))
          go_ret
          exact ⟨rfl, Hf5.out⟩
    · rw [hk] at hkc
      have Hkc := Lib.hid hkc
      clear hkc hk
      go_wp2_with fail
      refine Hkc.out.mono ?_
      rintro e w3 ⟨rfl, hf3⟩
      have Hf3 := Lib.hid (Hf2.out.trans hf3)
      have hr3 : RdIs w3 a (l, false) := Hr.out.fr hf3 (by simp)
      have hrd := text_any a l false B w3 hr3 (H.out.quiet Hf3.out) (Nat.le_trans H.out.le hwa) (by omega)
      have hdec : (rtext (l, false)).2.2 = false → l = encText (rtext (l, false)).1 ++ (rtext (l, false)).2.1 := fun h => (reads_text.ofEnc (l, false) h).2.1
      have hgood : (rtext (l, false)).1.length ≤ 400 := by
        cases hf : (rtext (l, false)).2.2 with
        | true => rw [rtext_fail _ hf]; exact Nat.zero_le _
        | false =>
          have h4 := congrArg List.length (hdec hf)
          rw [List.length_append] at h4
          have := text_len (rtext (l, false)).1
          omega
      have hle : (rtext (l, false)).2.1.length ≤ l.length := (reads_text.less (l, false)).1
      have hok : (rtext (l, false)).2.2 = true → (rtext (l, false)).2.1 = [] := reads_text.keepOk (l, false) (fun h => by cases h)
      clear hf3 hr3
      generalize rtext (l, false) = q at *
      obtain ⟨x, l2, f2⟩ := q
      simp only at hrd hle hok hdec hgood
      have Hrd := Lib.hid hrd
      have Hdec := Lib.hid hdec
      have Hok := Lib.hid hok
      have Hgood := Lib.hid hgood
      clear hrd hdec hok hgood
      go_wp2_with fail
      refine Hrd.out.mono ?_
      rintro e w4 ⟨rfl, hr4, hf4⟩
      have Hf4 := Lib.hid (Hf3.out.then hf4 (fun i hi => .inr (by have e : i = a := (by simpa using hi); omega)))
      have Hr4 := Lib.hid hr4
      skip
      clear hr4 hf4
      go_wp2_with fail
      refine (wtext_any (H.out.quiet Hf4.out) ⟨x.toArray⟩ (by rw [size_l]; have := Hgood.out; omega)).mono ?_
      skip
      rintro e w5 ⟨rfl, hf5⟩
      have Hr5 := Lib.hid (Hr4.out.fr hf5 (by simp))
      have Hf5 := Lib.hid (Hf4.out.trans hf5)
      clear hf5
      have HL := Lib.hid (left_any a (l2, f2) _ Hr5.out (by show l2.length ≤ _; omega))
      have HD := Lib.hid (done_any a (l2, f2) _ Hr5.out)
      cases f2 with
      | true =>
        have hl20 : l2 = [] := Hok.out rfl
        subst hl20
        clear Hok Hdec
        go_wp2_with (first
          | (go_at_call 30; refine HL.out.mono ?_; rintro e w6 ⟨rfl, rfl⟩)
          | (go_at_call 31; refine HD.out.mono ?_; rintro e w7 ⟨rfl, rfl⟩))
        go_ret
        exact ⟨rfl, Hf5.out⟩
      | false =>
        have hq := Hdec.out rfl
        generalize encText x = t at *
        have hlq : l.length = t.length + l2.length := by rw [hq, List.length_append]
        have hsub : IntKind.i64.wrap ((l.length : Int) - (l2.length : Int)) = (t.length : Int) := by rw [IntKind.wrap_i64]; omega
        have hmin2 : min (t.length : Int) (l.length : Int) = (t.length : Int) := by omega
        have hmax : max (0 : Int) (t.length : Int) = (t.length : Int) := by omega
        have ht1 : (t.length : Int) ≤ l.length := by omega
        have ht2 : t.length ≤ l.length := by omega
        have hex : (⟨l.toArray⟩ : ByteArray).extract 0 t.length = ⟨t.toArray⟩ := by
          rw [ext_take]
          conv => lhs; rw [hq, List.take_left]
        have Hlq := Lib.hid hlq
        clear hlq hq Hdec Hok
        cases l2 with
        | nil =>
          have hex0 : (⟨l.toArray⟩ : ByteArray).extract 0 l.length = ⟨t.toArray⟩ := by
            rw [Hlq.out]
            exact hex
          go_wp2_with (first
            | (go_at_call 30; refine HL.out.mono ?_; rintro e w6 ⟨rfl, rfl⟩)
            | (go_at_call 31; refine HD.out.mono ?_; rintro e w7 ⟨rfl, rfl⟩))
          go_ret
          exact ⟨rfl, Hf5.out⟩
        | cons c2 r2 =>
          have hc2 : ¬ (c2 :: r2) = [] := by simp
          generalize c2 :: r2 = l2 at *
          go_wp2_with (first
            | (go_at_call 30; refine HL.out.mono ?_; rintro e w6 ⟨rfl, rfl⟩)
            | (go_at_call 31; refine HD.out.mono ?_; rintro e w7 ⟨rfl, rfl⟩))
          go_ret
          exact ⟨rfl, Hf5.out⟩
    · rw [hk] at hkc
      have Hkc := Lib.hid hkc
      clear hkc hk
      go_wp2_with fail
      refine Hkc.out.mono ?_
      rintro e w3 ⟨rfl, hf3⟩
      have Hf3 := Lib.hid (Hf2.out.trans hf3)
      have hr3 : RdIs w3 a (l, false) := Hr.out.fr hf3 (by simp)
      have hrd := rnums_any a l false B w3 hr3 (H.out.quiet Hf3.out) (Nat.le_trans H.out.le hwa) (by omega)
      obtain ⟨g1, g2, g3, hdec⟩ := rlist_small reads_int enc_pos_int l (by omega)
      have hgood := And.intro g1 (And.intro g2 g3)
      clear g1 g2 g3
      have hle : ((rlist rint) (l, false)).2.1.length ≤ l.length := (rlist_len reads_int (l, false)).1
      have hok : ((rlist rint) (l, false)).2.2 = true → ((rlist rint) (l, false)).2.1 = [] := rlist_ok reads_int (l, false) (fun h => by cases h)
      clear hf3 hr3
      generalize (rlist rint) (l, false) = q at *
      obtain ⟨x, l2, f2⟩ := q
      simp only at hrd hle hok hdec hgood
      have Hrd := Lib.hid hrd
      have Hdec := Lib.hid hdec
      have Hok := Lib.hid hok
      have Hgood := Lib.hid hgood
      clear hrd hdec hok hgood
      go_wp2_with fail
      refine Hrd.out.mono ?_
      rintro e w4 ⟨v, rfl, hown, hr4, hf4⟩
      have Hf4 := Lib.hid (Hf3.out.then hf4 (fun i hi => .inr (by have e : i = a := (by simpa using hi); omega)))
      have Hr4 := Lib.hid hr4
      have Hsl : Hid (SL w4.heap.size w4 v x.length (x.map (Value.int .i64))) := SL.own hown (Nat.le_refl _) (by have := Hgood.out.1; omega)
      clear hown
      clear hr4 hf4
      go_wp2_with fail
      refine (wnums_any x (H.out.quiet Hf4.out) (fun y hy => (Hgood.out.2.2 y hy).1) (by have := Hgood.out.1; omega) (by have := Hgood.out.2.1; omega) Hsl.out).mono ?_
      skip
      rintro e w5 ⟨rfl, hf5⟩
      have Hr5 := Lib.hid (Hr4.out.fr hf5 (by simp))
      have Hf5 := Lib.hid (Hf4.out.trans hf5)
      clear hf5
      have HL := Lib.hid (left_any a (l2, f2) _ Hr5.out (by show l2.length ≤ _; omega))
      have HD := Lib.hid (done_any a (l2, f2) _ Hr5.out)
      cases f2 with
      | true =>
        have hl20 : l2 = [] := Hok.out rfl
        subst hl20
        clear Hok Hdec
        go_wp2_with (first
          | (go_at_call 30; refine HL.out.mono ?_; rintro e w6 ⟨rfl, rfl⟩)
          | (go_at_call 31; refine HD.out.mono ?_; rintro e w7 ⟨rfl, rfl⟩))
        go_ret
        exact ⟨rfl, Hf5.out⟩
      | false =>
        have hq := Hdec.out rfl
        generalize encList (x.map encInt) = t at *
        have hlq : l.length = t.length + l2.length := by rw [hq, List.length_append]
        have hsub : IntKind.i64.wrap ((l.length : Int) - (l2.length : Int)) = (t.length : Int) := by rw [IntKind.wrap_i64]; omega
        have hmin2 : min (t.length : Int) (l.length : Int) = (t.length : Int) := by omega
        have hmax : max (0 : Int) (t.length : Int) = (t.length : Int) := by omega
        have ht1 : (t.length : Int) ≤ l.length := by omega
        have ht2 : t.length ≤ l.length := by omega
        have hex : (⟨l.toArray⟩ : ByteArray).extract 0 t.length = ⟨t.toArray⟩ := by
          rw [ext_take]
          conv => lhs; rw [hq, List.take_left]
        have Hlq := Lib.hid hlq
        clear hlq hq Hdec Hok
        cases l2 with
        | nil =>
          have hex0 : (⟨l.toArray⟩ : ByteArray).extract 0 l.length = ⟨t.toArray⟩ := by
            rw [Hlq.out]
            exact hex
          go_wp2_with (first
            | (go_at_call 30; refine HL.out.mono ?_; rintro e w6 ⟨rfl, rfl⟩)
            | (go_at_call 31; refine HD.out.mono ?_; rintro e w7 ⟨rfl, rfl⟩))
          go_ret
          exact ⟨rfl, Hf5.out⟩
        | cons c2 r2 =>
          have hc2 : ¬ (c2 :: r2) = [] := by simp
          generalize c2 :: r2 = l2 at *
          go_wp2_with (first
            | (go_at_call 30; refine HL.out.mono ?_; rintro e w6 ⟨rfl, rfl⟩)
            | (go_at_call 31; refine HD.out.mono ?_; rintro e w7 ⟨rfl, rfl⟩))
          go_ret
          exact ⟨rfl, Hf5.out⟩
    · rw [hk] at hkc
      have Hkc := Lib.hid hkc
      clear hkc hk
      go_wp2_with fail
      refine Hkc.out.mono ?_
      rintro e w3 ⟨rfl, hf3⟩
      have Hf3 := Lib.hid (Hf2.out.trans hf3)
      have hr3 : RdIs w3 a (l, false) := Hr.out.fr hf3 (by simp)
      have hrd := rtexts_any a l false B w3 hr3 (H.out.quiet Hf3.out) (Nat.le_trans H.out.le hwa) (by omega)
      obtain ⟨g1, g2, g3, hdec⟩ := rlist_small reads_text enc_pos_text l (by omega)
      have hgood := And.intro g1 (And.intro g2 g3)
      clear g1 g2 g3
      have hle : ((rlist rtext) (l, false)).2.1.length ≤ l.length := (rlist_len reads_text (l, false)).1
      have hok : ((rlist rtext) (l, false)).2.2 = true → ((rlist rtext) (l, false)).2.1 = [] := rlist_ok reads_text (l, false) (fun h => by cases h)
      clear hf3 hr3
      generalize (rlist rtext) (l, false) = q at *
      obtain ⟨x, l2, f2⟩ := q
      simp only at hrd hle hok hdec hgood
      have Hrd := Lib.hid hrd
      have Hdec := Lib.hid hdec
      have Hok := Lib.hid hok
      have Hgood := Lib.hid hgood
      clear hrd hdec hok hgood
      go_wp2_with fail
      refine Hrd.out.mono ?_
      rintro e w4 ⟨v, rfl, hown, hr4, hf4⟩
      have Hf4 := Lib.hid (Hf3.out.then hf4 (fun i hi => .inr (by have e : i = a := (by simpa using hi); omega)))
      have Hr4 := Lib.hid hr4
      have Hsl : Hid (SL w4.heap.size w4 v x.length (x.map bsv)) := SL.own hown (Nat.le_refl _) (by have := Hgood.out.1; omega)
      clear hown
      clear hr4 hf4
      go_wp2_with fail
      refine (wtexts_any x (H.out.quiet Hf4.out) (fun y hy => by have h1 := (Hgood.out.2.2 y hy).2; have h2 := text_len y; omega) (by have := Hgood.out.1; omega) (by have := Hgood.out.2.1; omega) Hsl.out).mono ?_
      skip
      rintro e w5 ⟨rfl, hf5⟩
      have Hr5 := Lib.hid (Hr4.out.fr hf5 (by simp))
      have Hf5 := Lib.hid (Hf4.out.trans hf5)
      clear hf5
      have HL := Lib.hid (left_any a (l2, f2) _ Hr5.out (by show l2.length ≤ _; omega))
      have HD := Lib.hid (done_any a (l2, f2) _ Hr5.out)
      cases f2 with
      | true =>
        have hl20 : l2 = [] := Hok.out rfl
        subst hl20
        clear Hok Hdec
        go_wp2_with (first
          | (go_at_call 30; refine HL.out.mono ?_; rintro e w6 ⟨rfl, rfl⟩)
          | (go_at_call 31; refine HD.out.mono ?_; rintro e w7 ⟨rfl, rfl⟩))
        go_ret
        exact ⟨rfl, Hf5.out⟩
      | false =>
        have hq := Hdec.out rfl
        generalize encList (x.map encText) = t at *
        have hlq : l.length = t.length + l2.length := by rw [hq, List.length_append]
        have hsub : IntKind.i64.wrap ((l.length : Int) - (l2.length : Int)) = (t.length : Int) := by rw [IntKind.wrap_i64]; omega
        have hmin2 : min (t.length : Int) (l.length : Int) = (t.length : Int) := by omega
        have hmax : max (0 : Int) (t.length : Int) = (t.length : Int) := by omega
        have ht1 : (t.length : Int) ≤ l.length := by omega
        have ht2 : t.length ≤ l.length := by omega
        have hex : (⟨l.toArray⟩ : ByteArray).extract 0 t.length = ⟨t.toArray⟩ := by
          rw [ext_take]
          conv => lhs; rw [hq, List.take_left]
        have Hlq := Lib.hid hlq
        clear hlq hq Hdec Hok
        cases l2 with
        | nil =>
          have hex0 : (⟨l.toArray⟩ : ByteArray).extract 0 l.length = ⟨t.toArray⟩ := by
            rw [Hlq.out]
            exact hex
          go_wp2_with (first
            | (go_at_call 30; refine HL.out.mono ?_; rintro e w6 ⟨rfl, rfl⟩)
            | (go_at_call 31; refine HD.out.mono ?_; rintro e w7 ⟨rfl, rfl⟩))
          go_ret
          exact ⟨rfl, Hf5.out⟩
        | cons c2 r2 =>
          have hc2 : ¬ (c2 :: r2) = [] := by simp
          generalize c2 :: r2 = l2 at *
          go_wp2_with (first
            | (go_at_call 30; refine HL.out.mono ?_; rintro e w6 ⟨rfl, rfl⟩)
            | (go_at_call 31; refine HD.out.mono ?_; rintro e w7 ⟨rfl, rfl⟩))
          go_ret
          exact ⟨rfl, Hf5.out⟩

end Go.Proofs.YthajdajhclpaaaaDoor
