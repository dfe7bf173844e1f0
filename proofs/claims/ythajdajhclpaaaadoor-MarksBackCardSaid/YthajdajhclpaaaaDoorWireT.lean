/- Layer 1: a reader's Num, Int, Text. -/
import Derived.Test.YthajdajhclpaaaaDoorWireN
namespace Go.Proofs.YthajdajhclpaaaaDoor
open Go.RowKit Go.Shelf Wr

theorem rnum_bounds (e : UInt8) (least : Int) (h0 : least ≤ 0) (hl : I64 least) (l : List UInt8) (b : Bool) : least ≤ (rnum e least (l, b)).1 ∧ I64 (rnum e least (l, b)).1 ∧ (rnum e least (l, b)).2.1.length ≤ l.length := by
  unfold rnum
  simp only
  cases h : numR e least l with
  | none => exact ⟨h0, ⟨(by show (-9223372036854775808 : Int) ≤ 0; decide), (by show (0 : Int) ≤ 9223372036854775807; decide)⟩, Nat.zero_le _⟩
  | some p =>
    obtain ⟨h1, h2, h3⟩ := numR_dec e least p.1 l p.2 h
    refine ⟨h2, h3, ?_⟩
    have := congrArg List.length h1
    rw [List.length_append, List.length_cons] at this
    show p.2.length ≤ _
    omega

theorem num_any (a : Nat) (l : List UInt8) (b : Bool) (B : Nat) (w : World) (h : RdIs w a (l, b)) (hw : LW B w) (hB : B ≤ a) (hl : l.length ≤ 1099511627776) :
    Calls Tryd.prog 25 #[.pointer (some ⟨a, 0, none⟩)] w fun en w' => en = .returned (.int .i64 (rnat (l, b)).1) ∧ RdIs w' a (rnat (l, b)).2 ∧ Fr [a] w w' := by
  have hx := Lib.hid (number_any a l b B w h hw hB 59 0 59 (by decide) hl)
  clear h hw hB hl
  unfold rnat
  go_enter Tryd.func25, Tryd.ntmps25
  go_wp2_with fail
  refine hx.out.mono ?_
  rintro e w1 ⟨rfl, h1, h2⟩
  have H1 := Lib.hid h1
  have H2 := Lib.hid h2
  clear h1 h2
  go_wp2
  go_ret
  exact ⟨rfl, H1.out, H2.out⟩

theorem int_any (a : Nat) (l : List UInt8) (b : Bool) (B : Nat) (w : World) (h : RdIs w a (l, b)) (hw : LW B w) (hB : B ≤ a) (hl : l.length ≤ 1099511627776) :
    Calls Tryd.prog 26 #[.pointer (some ⟨a, 0, none⟩)] w fun en w' => en = .returned (.int .i64 (rint (l, b)).1) ∧ RdIs w' a (rint (l, b)).2 ∧ Fr [a] w w' := by
  have hx := Lib.hid (number_any a l b B w h hw hB 59 (-9223372036854775808) 59 (by decide) hl)
  clear h hw hB hl
  unfold rint
  go_enter Tryd.func26, Tryd.ntmps26
  go_wp2_with fail
  refine hx.out.mono ?_
  rintro e w1 ⟨rfl, h1, h2⟩
  have H1 := Lib.hid h1
  have H2 := Lib.hid h2
  clear h1 h2
  go_wp2
  go_ret
  exact ⟨rfl, H1.out, H2.out⟩

theorem text_any (a : Nat) (l : List UInt8) (b : Bool) (B : Nat) (w : World) (h : RdIs w a (l, b)) (hw : LW B w) (hB : B ≤ a) (hl : l.length ≤ 1099511627776) :
    Calls Tryd.prog 27 #[.pointer (some ⟨a, 0, none⟩)] w fun en w' => en = .returned (.string ⟨(rtext (l, b)).1.toArray⟩) ∧ RdIs w' a (rtext (l, b)).2 ∧ Fr [a] w w' := by
  have hx := number_any a l b B w h hw hB 58 0 58 (by decide) hl
  obtain ⟨b0, b1, b2⟩ := rnum_bounds 58 0 (by decide) ⟨by decide, by decide⟩ l b
  have hrt : rtext (l, b) = if (((rnum 58 0 (l, b)).2.1.length : Nat) : Int) < (rnum 58 0 (l, b)).1 then ([], dead)
    else if (rclose 44 ((rnum 58 0 (l, b)).2.1.drop (rnum 58 0 (l, b)).1.toNat, (rnum 58 0 (l, b)).2.2)).2 = true then ([], rclose 44 ((rnum 58 0 (l, b)).2.1.drop (rnum 58 0 (l, b)).1.toNat, (rnum 58 0 (l, b)).2.2))
    else ((rnum 58 0 (l, b)).2.1.take (rnum 58 0 (l, b)).1.toNat, rclose 44 ((rnum 58 0 (l, b)).2.1.drop (rnum 58 0 (l, b)).1.toNat, (rnum 58 0 (l, b)).2.2)) := rfl
  generalize rnum 58 0 (l, b) = q at *
  obtain ⟨n, l1, f1⟩ := q
  simp only at hx b0 b1 b2 hrt
  obtain ⟨k, rfl⟩ : ∃ k : Nat, n = k := ⟨n.toNat, by omega⟩
  rw [Int.toNat_natCast] at hrt
  have Hx := Lib.hid hx
  have Hrt := Lib.hid hrt
  have Hb := Lib.hid b1
  clear h hw hx hrt b0 b1
  by_cases hk : (l1.length : Int) < k
  · go_enter Tryd.func27, Tryd.ntmps27
    go_wp2_with fail
    refine Hx.out.mono ?_
    rintro e w1 ⟨rfl, h1, h2⟩
    have H1 := Lib.hid h1
    have H2 := Lib.hid h2
    have d0 : w1.cell? ⟨a, 0, none⟩ = some (.string ⟨l1.toArray⟩) := h1.c0
    clear h1 h2
    go_wp2_with fail
    refine (fail_any a (l1, f1) _ H1.out).mono ?_
    rintro e w2 ⟨rfl, h3, h4⟩
    have H3 := Lib.hid h3
    have H4 := Lib.hid h4
    clear h3 h4
    go_wp2
    go_ret
    rw [Hrt.out, if_pos hk]
    exact ⟨rfl, H3.out, H2.out.trans H4.out⟩
  · have hkl : (k : Int) ≤ l1.length := by omega
    have hkl' : k ≤ l1.length := by omega
    have hex1 : (⟨l1.toArray⟩ : ByteArray).extract 0 k = ⟨(l1.take k).toArray⟩ := ext_take l1 k
    have hex2 : (⟨l1.toArray⟩ : ByteArray).extract k l1.length = ⟨(l1.drop k).toArray⟩ := ext_drop l1 k _ rfl
    have hrt := Hrt.out
    rw [if_neg hk] at hrt
    have hcl : Hid (∀ (w1 : World), RdIs w1 a (l1.drop k, f1) → Calls Tryd.prog 68 #[.pointer (some ⟨a, 0, none⟩), .string ⟨#[44]⟩] w1 fun e w' => e = .returned (.tuple #[]) ∧ RdIs w' a (rclose 44 (l1.drop k, f1)) ∧ Fr [a] w1 w') := fun w1 h1 => close_any a (l1.drop k, f1) w1 h1 ⟨#[44]⟩ 44 rfl
    generalize rclose 44 (l1.drop k, f1) = q at *
    obtain ⟨l2, f2⟩ := q
    have Hrt2 := Lib.hid hrt
    clear hrt Hrt
    cases f2 with
    | true =>
      go_enter Tryd.func27, Tryd.ntmps27
      go_wp2_with fail
      refine Hx.out.mono ?_
      rintro e w1 ⟨rfl, h1, h2⟩
      have H1 := Lib.hid h1
      have H2 := Lib.hid h2
      have d0 : w1.cell? ⟨a, 0, none⟩ = some (.string ⟨l1.toArray⟩) := h1.c0
      have dz : w1.frozen? ⟨a, 0, none⟩ = false := h1.z 0
      clear h1 h2
      go_wp2_with fail
      refine (hcl.out _ (H1.out.set0 (l1.drop k) _ rfl)).mono ?_
      rintro e w2 ⟨rfl, h3, h4⟩
      have H3 := Lib.hid h3
      have H4 := Lib.hid h4
      have g1 : w2.cell? ⟨a, 1, none⟩ = some (.bool true) := h3.c1
      clear h3 h4 d0 dz
      go_wp2
      go_ret
      rw [Hrt2.out]
      exact ⟨rfl, H3.out, (Fr.set H2.out (.inl (by simp)) _).trans H4.out⟩
    | false =>
      go_enter Tryd.func27, Tryd.ntmps27
      go_wp2_with fail
      refine Hx.out.mono ?_
      rintro e w1 ⟨rfl, h1, h2⟩
      have H1 := Lib.hid h1
      have H2 := Lib.hid h2
      have d0 : w1.cell? ⟨a, 0, none⟩ = some (.string ⟨l1.toArray⟩) := h1.c0
      have dz : w1.frozen? ⟨a, 0, none⟩ = false := h1.z 0
      clear h1 h2
      go_wp2_with fail
      refine (hcl.out _ (H1.out.set0 (l1.drop k) _ rfl)).mono ?_
      rintro e w2 ⟨rfl, h3, h4⟩
      have H3 := Lib.hid h3
      have H4 := Lib.hid h4
      have g1 : w2.cell? ⟨a, 1, none⟩ = some (.bool false) := h3.c1
      clear h3 h4 d0 dz
      go_wp2
      go_ret
      rw [Hrt2.out]
      exact ⟨rfl, H3.out, (Fr.set H2.out (.inl (by simp)) _).trans H4.out⟩

end Go.Proofs.YthajdajhclpaaaaDoor
