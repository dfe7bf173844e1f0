/- The reference of layer 1: a reader's number, close, Num, Int, Text. -/
import Derived.Test.YthajdajhclpaaaaDoorRefQ
namespace Go.Proofs.YthajdajhclpaaaaDoor
open Go.RowKit Go.Shelf Wr

theorem numR_zero (e : UInt8) (l : List UInt8) : numR e 0 l = (match numR e (-9223372036854775808) l with | some (n, r) => if n < 0 then none else some (n, r) | none => none) := by
  unfold numR
  split
  · rfl
  · split
    · rename_i n hn
      have hb := Lib.atoiAll_bounds hn
      by_cases h1 : Lib.itoa n = l.take (Lib.indexByte (l.take 21) e).toNat
      · rw [if_pos (show _ ∧ _ from ⟨h1, hb.1⟩)]
        simp only
        by_cases h0 : n < 0
        · rw [if_pos h0, if_neg (fun h => by omega)]
        · rw [if_neg h0, if_pos ⟨h1, by omega⟩]
      · rw [if_neg (fun h => h1 h.1), if_neg (fun h => h1 h.1)]
    · rfl
theorem rnum_zero (e : UInt8) (s : Rd) : rnum e 0 s = if (rnum e (-9223372036854775808) s).1 < 0 then (0, dead) else rnum e (-9223372036854775808) s := by
  unfold rnum
  rw [numR_zero]
  cases numR e (-9223372036854775808) s.1 with
  | none => rfl
  | some p =>
    obtain ⟨n, r⟩ := p
    simp only
    by_cases h : n < 0
    · rw [if_pos h, if_pos h]
    · rw [if_neg h, if_neg h]

set_option maxRecDepth 100000 in
theorem xnumber_any (a : Nat) (l : List UInt8) (b : Bool) (w : World) (h : RdX w a (l, b)) (e : UInt8) (ei : Int) (hei : ei = (e.toNat : Int)) (hE : Wr.Ends e) (hl : l.length ≤ 1000000) :
    Calls Tryd.prog 72 #[.pointer (some ⟨a, 0, none⟩), .int .u8 ei] w fun en w' => en = .returned (.int .i64 (rnum e 0 (l, b)).1) ∧ RdX w' a (rnum e 0 (l, b)).2 ∧ Fr [a] w w' := by
  subst hei
  have hx := Lib.hid (xahead_any a l b w h e _ rfl hE hl)
  rw [rnum_zero]
  clear h
  generalize rnum e (-9223372036854775808) (l, b) = q at *
  obtain ⟨n, r⟩ := q
  simp only at hx ⊢
  by_cases hn : n < 0
  · rw [if_pos hn]
    go_enter Tryd.func72, Tryd.ntmps72
    go_wp2_with fail
    refine hx.out.mono ?_
    rintro e' w1 ⟨rfl, h1, h2⟩
    have H1 := Lib.hid h1
    have H2 := Lib.hid h2
    clear h1 h2
    go_wp2_with fail
    refine (xfail_any a r _ H1.out).mono ?_
    rintro e' w3 ⟨rfl, h3, h4⟩
    have H3 := Lib.hid h3
    have H4 := Lib.hid h4
    clear h3 h4
    go_wp2
    go_ret
    exact ⟨rfl, H3.out, H2.out.trans H4.out⟩
  · rw [if_neg hn]
    have hdn : decide (n < 0) = false := decide_eq_false hn
    go_enter Tryd.func72, Tryd.ntmps72
    go_wp2_with fail
    refine hx.out.mono ?_
    rintro e' w1 ⟨rfl, h1, h2⟩
    have H1 := Lib.hid h1
    have H2 := Lib.hid h2
    clear h1 h2
    go_wp2
    go_ret
    exact ⟨rfl, H1.out, H2.out⟩

theorem xnum_rd (a : Nat) (l : List UInt8) (b : Bool) (w : World) (h : RdX w a (l, b)) (hl : l.length ≤ 1000000) :
    Calls Tryd.prog 35 #[.pointer (some ⟨a, 0, none⟩)] w fun en w' => en = .returned (.int .i64 (rnat (l, b)).1) ∧ RdX w' a (rnat (l, b)).2 ∧ Fr [a] w w' := by
  have hx := Lib.hid (xnumber_any a l b w h 59 59 (by decide) ends59 hl)
  clear h hl
  unfold rnat
  generalize rnum 59 0 (l, b) = q at *
  go_enter Tryd.func35, Tryd.ntmps35
  go_wp2_with fail
  refine hx.out.mono ?_
  rintro e w1 ⟨rfl, h1, h2⟩
  have H1 := Lib.hid h1
  have H2 := Lib.hid h2
  clear h1 h2
  go_wp2
  go_ret
  exact ⟨rfl, H1.out, H2.out⟩
theorem xint_rd (a : Nat) (l : List UInt8) (b : Bool) (w : World) (h : RdX w a (l, b)) (hl : l.length ≤ 1000000) :
    Calls Tryd.prog 36 #[.pointer (some ⟨a, 0, none⟩)] w fun en w' => en = .returned (.int .i64 (rint (l, b)).1) ∧ RdX w' a (rint (l, b)).2 ∧ Fr [a] w w' := by
  have hx := Lib.hid (xahead_any a l b w h 59 59 (by decide) ends59 hl)
  clear h hl
  unfold rint
  generalize rnum 59 (-9223372036854775808) (l, b) = q at *
  go_enter Tryd.func36, Tryd.ntmps36
  go_wp2_with fail
  refine hx.out.mono ?_
  rintro e w1 ⟨rfl, h1, h2⟩
  have H1 := Lib.hid h1
  have H2 := Lib.hid h2
  clear h1 h2
  go_wp2
  go_ret
  exact ⟨rfl, H1.out, H2.out⟩

set_option maxRecDepth 100000 in
theorem xclose_any (a : Nat) (l : List UInt8) (w : World) (h : RdX w a (l, false)) (e : UInt8) (ei : Int) (hei : ei = (e.toNat : Int)) (hl : l.length ≤ 1000000) : Calls Tryd.prog 75 #[.pointer (some ⟨a, 0, none⟩), .int .u8 ei] w fun en w' => en = .returned (.bool (!(rclose e (l, false)).2)) ∧ RdX w' a (rclose e (l, false)) ∧ Fr [a] w w' := by
  subst hei
  have c0 : w.cell? ⟨a, 0, none⟩ = some (.string ⟨l.toArray⟩) := h.c0
  have z0 := h.z 0
  have H := Lib.hid h
  have hs := size_l l
  clear h
  cases l with
  | nil =>
    have hx : rclose e (([] : List UInt8), false) = dead := rfl
    rw [hx]
    clear hx
    have hs0 : (([] : List UInt8).length : Int) = 0 := rfl
    go_enter Tryd.func75, Tryd.ntmps75
    go_wp2_with fail
    refine (xfail_any a _ _ H.out).mono ?_
    rintro e' w3 ⟨rfl, h3, h4⟩
    have H3 := Lib.hid h3
    have H4 := Lib.hid h4
    clear h3 h4
    go_wp2
    go_ret
    exact ⟨rfl, H3.out, H4.out⟩
  | cons c t =>
    have hgb := getb (c :: t) 0 c rfl
    have hpos : (((c :: t).length : Int) == 0) = false := by rw [beq_eq_false_iff_ne]; simp only [List.length_cons]; omega
    have hpos2 : 0 < (c :: t).length := by simp
    have hpos3 : (0 : Int) < ((c :: t).length : Int) := by omega
    have hex : (⟨(c :: t).toArray⟩ : ByteArray).extract 1 (c :: t).length = ⟨t.toArray⟩ := ext_drop (c :: t) 1 _ rfl
    by_cases hce : c = e
    · subst hce
      have hx : rclose c (c :: t, false) = (t, false) := by simp [rclose]
      rw [hx]
      clear hx
      generalize hl2 : c :: t = l2 at *
      clear hl2
      go_enter Tryd.func75, Tryd.ntmps75
      go_wp2
      go_ret
      exact ⟨rfl, H.out.set0 t _ rfl, Fr.set (Fr.refl _ _) (.inl (by simp)) _⟩
    · have hx : rclose e (c :: t, false) = dead := by simp [rclose, hce]
      rw [hx]
      clear hx
      have hne : ((c.toNat : Int) == (e.toNat : Int)) = false := by
        rw [beq_eq_false_iff_ne]
        intro h1
        apply hce
        apply UInt8.toNat_inj.1
        omega
      generalize hl2 : c :: t = l2 at *
      clear hl2
      go_enter Tryd.func75, Tryd.ntmps75
      go_wp2_with fail
      refine (xfail_any a _ _ H.out).mono ?_
      rintro e' w3 ⟨rfl, h3, h4⟩
      have H3 := Lib.hid h3
      have H4 := Lib.hid h4
      clear h3 h4
      go_wp2
      go_ret
      exact ⟨rfl, H3.out, H4.out⟩

set_option maxRecDepth 100000 in
theorem xtext_rd (a : Nat) (l : List UInt8) (b : Bool) (w : World) (h : RdX w a (l, b)) (hok : b = true → l = []) (hl : l.length ≤ 1000000) :
    Calls Tryd.prog 37 #[.pointer (some ⟨a, 0, none⟩)] w fun en w' => en = .returned (.string ⟨(rtext (l, b)).1.toArray⟩) ∧ RdX w' a (rtext (l, b)).2 ∧ Fr [a] w w' := by
  have hx := xnumber_any a l b w h 58 58 (by decide) ends58 hl
  obtain ⟨b0, b1, b2⟩ := rnum_bounds 58 0 (by decide) ⟨by decide, by decide⟩ l b
  have hbad := rnum_bad 58 0 (l, b)
  have hrt : rtext (l, b) = if (((rnum 58 0 (l, b)).2.1.length : Nat) : Int) < (rnum 58 0 (l, b)).1 then ([], dead)
    else if (rclose 44 ((rnum 58 0 (l, b)).2.1.drop (rnum 58 0 (l, b)).1.toNat, (rnum 58 0 (l, b)).2.2)).2 = true then ([], rclose 44 ((rnum 58 0 (l, b)).2.1.drop (rnum 58 0 (l, b)).1.toNat, (rnum 58 0 (l, b)).2.2))
    else ((rnum 58 0 (l, b)).2.1.take (rnum 58 0 (l, b)).1.toNat, rclose 44 ((rnum 58 0 (l, b)).2.1.drop (rnum 58 0 (l, b)).1.toNat, (rnum 58 0 (l, b)).2.2)) := rfl
  generalize rnum 58 0 (l, b) = q at *
  obtain ⟨n, l1, f1⟩ := q
  simp only at hx b0 b1 b2 hrt hbad
  obtain ⟨k, rfl⟩ : ∃ k : Nat, n = k := ⟨n.toNat, by omega⟩
  rw [Int.toNat_natCast] at hrt
  have Hx := Lib.hid hx
  have hs1 := size_l l1
  cases f1 with
  | true =>
    have hd := hbad rfl hok
    injection hd with hd1 hd2
    have hk0 : k = 0 := by omega
    have hl0 : l1 = [] := congrArg Prod.fst hd2
    subst hk0 hl0
    have hr : rtext (l, b) = ([], dead) := by
      rw [hrt]
      rfl
    rw [hr]
    clear h hx hrt hbad hd1 hd2 hr b0 b1 hok
    go_enter Tryd.func37, Tryd.ntmps37
    go_wp2_with fail
    refine Hx.out.mono ?_
    rintro e w1 ⟨rfl, h1, h2⟩
    have H1 := Lib.hid h1
    have H2 := Lib.hid h2
    have d1 : w1.cell? ⟨a, 1, none⟩ = some (.bool true) := h1.c1
    clear h1 h2
    go_wp2_with fail
    refine (xfail_any a _ _ H1.out).mono ?_
    rintro e' w3 ⟨rfl, h3, h4⟩
    have H3 := Lib.hid h3
    have H4 := Lib.hid h4
    clear h3 h4
    go_wp2
    go_ret
    exact ⟨rfl, H3.out, H2.out.trans H4.out⟩
  | false =>
    clear hbad hok
    by_cases hk : (l1.length : Int) ≤ k
    · have hr : rtext (l, b) = ([], dead) := by
        rw [hrt]
        by_cases hlt : (l1.length : Int) < k
        · rw [if_pos hlt]
        · have hke : k = l1.length := by omega
          rw [if_neg hlt, hke, List.drop_length]
          rfl
      rw [hr]
      clear h hx hrt hr b0
      go_enter Tryd.func37, Tryd.ntmps37
      go_wp2_with fail
      refine Hx.out.mono ?_
      rintro e w1 ⟨rfl, h1, h2⟩
      have H1 := Lib.hid h1
      have H2 := Lib.hid h2
      have d0 : w1.cell? ⟨a, 0, none⟩ = some (.string ⟨l1.toArray⟩) := h1.c0
      have d1 : w1.cell? ⟨a, 1, none⟩ = some (.bool false) := h1.c1
      clear h1 h2
      go_wp2_with fail
      refine (xfail_any a _ _ H1.out).mono ?_
      rintro e' w3 ⟨rfl, h3, h4⟩
      have H3 := Lib.hid h3
      have H4 := Lib.hid h4
      clear h3 h4
      go_wp2
      go_ret
      exact ⟨rfl, H3.out, H2.out.trans H4.out⟩
    · have hkl : (k : Int) < l1.length := by omega
      have hkl' : k ≤ l1.length := by omega
      rw [if_neg (by omega)] at hrt
      have hex1 : (⟨l1.toArray⟩ : ByteArray).extract 0 k = ⟨(l1.take k).toArray⟩ := ext_take l1 k
      have hex2 : (⟨l1.toArray⟩ : ByteArray).extract k l1.length = ⟨(l1.drop k).toArray⟩ := ext_drop l1 k _ rfl
      have hcl : Hid (∀ (w1 : World), RdX w1 a (l1.drop k, false) → Calls Tryd.prog 75 #[.pointer (some ⟨a, 0, none⟩), .int .u8 44] w1 fun e w' => e = .returned (.bool (!(rclose 44 (l1.drop k, false)).2)) ∧ RdX w' a (rclose 44 (l1.drop k, false)) ∧ Fr [a] w1 w') := fun w1 h1 => xclose_any a (l1.drop k) w1 h1 44 44 (by decide) (by rw [List.length_drop]; omega)
      generalize rclose 44 (l1.drop k, false) = q2 at *
      obtain ⟨l2, f2⟩ := q2
      have Hrt := Lib.hid hrt
      clear h hx hrt b0 hk
      cases f2 with
      | true =>
        go_enter Tryd.func37, Tryd.ntmps37
        go_wp2_with fail
        refine Hx.out.mono ?_
        rintro e w1 ⟨rfl, h1, h2⟩
        have H1 := Lib.hid h1
        have H2 := Lib.hid h2
        have d0 : w1.cell? ⟨a, 0, none⟩ = some (.string ⟨l1.toArray⟩) := h1.c0
        have d1 : w1.cell? ⟨a, 1, none⟩ = some (.bool false) := h1.c1
        have dz := h1.z 0
        clear h1 h2
        go_wp2_with fail
        refine (hcl.out _ (H1.out.set0 (l1.drop k) _ rfl)).mono ?_
        rintro e w2 ⟨rfl, h3, h4⟩
        have H3 := Lib.hid h3
        have H4 := Lib.hid h4
        clear h3 h4 d0 d1 dz
        go_wp2
        go_ret
        rw [Hrt.out]
        exact ⟨rfl, H3.out, (Fr.set H2.out (.inl (by simp)) _).trans H4.out⟩
      | false =>
        go_enter Tryd.func37, Tryd.ntmps37
        go_wp2_with fail
        refine Hx.out.mono ?_
        rintro e w1 ⟨rfl, h1, h2⟩
        have H1 := Lib.hid h1
        have H2 := Lib.hid h2
        have d0 : w1.cell? ⟨a, 0, none⟩ = some (.string ⟨l1.toArray⟩) := h1.c0
        have d1 : w1.cell? ⟨a, 1, none⟩ = some (.bool false) := h1.c1
        have dz := h1.z 0
        clear h1 h2
        go_wp2_with fail
        refine (hcl.out _ (H1.out.set0 (l1.drop k) _ rfl)).mono ?_
        rintro e w2 ⟨rfl, h3, h4⟩
        have H3 := Lib.hid h3
        have H4 := Lib.hid h4
        clear h3 h4 d0 d1 dz
        go_wp2
        go_ret
        rw [Hrt.out]
        exact ⟨rfl, H3.out, (Fr.set H2.out (.inl (by simp)) _).trans H4.out⟩

end Go.Proofs.YthajdajhclpaaaaDoor
