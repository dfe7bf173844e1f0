/- Layer 1: WireReads. (Printed by genreads.py.) -/
import Derived.Test.YthajdajhclpaaaaDoorRefI
import Derived.Test.YthajdajhclpaaaaDoorLawS
namespace Go.Proofs.YthajdajhclpaaaaDoor
open Go.RowKit Go.Shelf Wr

theorem rlist_bound {α : Type} {one : Rd → α × Rd} {enc : α → List UInt8} {good : α → Prop} (h : Reads one enc good) (hp : ∀ x, 1 ≤ (enc x).length) (l : List UInt8) (b : Bool) (hl : l.length ≤ 400) : (rlist one (l, b)).1.length ≤ 400 := by
  cases b with
  | false => exact (rlist_small h hp l hl).1
  | true =>
    cases hf : (rlist one (l, true)).2.2 with
    | true => rw [rlist_fail one _ hf]; exact Nat.zero_le _
    | false =>
      have := (rlist_dec h (l, true) hf).1
      cases this

set_option maxRecDepth 100000 in
set_option maxHeartbeats 4000000 in
theorem reads_any (l : List UInt8) (zs : List Int) (A : Option Addr) (c B : Nat) (w : World) (h : LW B w) (hA : 0 < zs.length → ∃ b off, A = some ⟨b, off, none⟩ ∧ Came w b off (zs.map (Value.int .i64))) (hz : ∀ z, z ∈ zs → I64 z) :
    Calls Tryd.prog 7 #[.string ⟨l.toArray⟩, .slice A zs.length c] w fun e w' => e = .returned (.bool true) ∧ Fr [] w w' := by
  have H := Lib.hid h
  have HA := Lib.hid hA
  have HZ := Lib.hid hz
  have Hs := Lib.hid (small01_any w h)
  have hsl := size_l l
  clear h hA hz
  by_cases hl4 : (400 : Int) < l.length
  · go_enter Tryd.func7, Tryd.ntmps7
    go_wp2_with fail
    refine Hs.out.mono ?_
    rintro e w1 ⟨rfl, hf1⟩
    have Hf1 := Lib.hid hf1
    clear hf1
    go_wp2
    go_ret
    exact ⟨rfl, Hf1.out⟩
  have hd4 : decide ((400 : Int) < (l.length : Int)) = false := decide_eq_false hl4
  by_cases hz20 : (20 : Int) < zs.length
  · go_enter Tryd.func7, Tryd.ntmps7
    go_wp2_with fail
    refine Hs.out.mono ?_
    rintro e w1 ⟨rfl, hf1⟩
    have Hf1 := Lib.hid hf1
    clear hf1
    go_wp2
    go_ret
    exact ⟨rfl, Hf1.out⟩
  have hd20 : decide ((20 : Int) < (zs.length : Int)) = false := decide_eq_false hz20
  have hl400 : l.length ≤ 400 := by omega
  go_enter Tryd.func7, Tryd.ntmps7
  go_wp2_with fail
  refine Hs.out.mono ?_
  rintro e w1 ⟨rfl, hf1⟩
  have Hf1 := Lib.hid hf1
  clear hf1
  go_wp2_with fail
  refine (open_any l _).mono ?_
  rintro e w2 ⟨a, rfl, ha, hr2, hf2⟩
  have Hf2 := Lib.hid (Hf1.out.trans hf2)
  have Hr2 := Lib.hid hr2
  have hwa : w.heap.size ≤ a := Nat.le_trans Hf1.out.size ha
  have haw : a < w2.heap.size := hr2.lt
  clear hf2 hr2 ha
  go_wp2_with fail
  refine (xopen_any l _).mono ?_
  rintro e w3 ⟨a2, rfl, ha2, hx3, hf3⟩
  have Hf3 := Lib.hid (Hf2.out.trans hf3)
  have Hr3 := Lib.hid (Hr2.out.fr hf3 (by simp))
  have Hx3 := Lib.hid hx3
  have hwa2 : w.heap.size ≤ a2 := by omega
  have haa : a < a2 := by omega
  clear hf3 hx3 ha2 haw
  have hBa : B ≤ a := Nat.le_trans H.out.le hwa
  go_wp2
  go_loopg [8] zs.length (fun gk v8 wr => ∃ (i : Nat) (q : Rd), v8 = .int .i64 i ∧ i ≤ zs.length ∧ gk = zs.length - i ∧ RdIs wr a q ∧ RdX wr a2 q ∧ Ok q ∧ q.1.length ≤ l.length ∧ Fr [] w wr)
  case atStart => exact ⟨0, (l, false), rfl, Nat.zero_le _, rfl, Hr3.out, Hx3.out, (fun h => by cases h), Nat.le_refl _, Hf3.out⟩
  case round =>
    obtain ⟨i, q, rfl, hi, rfl, hr, hx, hok, hql, hb⟩ := hrel
    obtain ⟨l2, b2⟩ := q
    simp only at hql
    have Hr := Lib.hid hr
    have Hx := Lib.hid hx
    have Hok := Lib.hid hok
    have Hb := Lib.hid hb
    clear hr hx hok hb
    have hl2 : l2.length ≤ 400 := by omega
    by_cases hlt : i < zs.length
    · obtain ⟨b, off, rfl, hca⟩ := HA.out (by omega)
      obtain ⟨z, hzi⟩ : ∃ z, zs[i]? = some z := ⟨_, List.getElem?_eq_getElem hlt⟩
      have hcell : (zs.map (Value.int .i64))[i]? = some (.int .i64 z) := by rw [List.getElem?_map, hzi]; rfl
      have c0 : wr.cell? ⟨b, off + i, none⟩ = some (.int .i64 z) := (hca.of_block Hb.out.size (Hb.out.block _ hca.1 (by simp))).2 i _ hcell
      have hzr := HZ.out z (List.mem_of_getElem? hzi)
      have hkc := kind_any z hzr.1 hzr.2 (.int .i64 0) (.string ⟨#[]⟩) (.slice none 0 0) (.slice none 0 0) wr
      have hkd : z % 5 = 0 ∨ z % 5 = 1 ∨ z % 5 = 2 ∨ z % 5 = 3 ∨ z % 5 = 4 := by omega
      clear hca hcell hzi hzr
      rcases hkd with hk | hk | hk | hk | hk
      · rw [hk] at hkc
        have Hkc := Lib.hid hkc
        clear hkc hk
        have hok2 : Ok (rnat (l2, b2)).2 := rnum_ok 59 0 _ Hok.out
        have hln : (rnat (l2, b2)).2.1.length ≤ l2.length := (rnum_len 59 0 (l2, b2)).1
        have HP : Hid (∀ w1, Fr [] wr w1 → Calls Tryd.prog 25 #[.pointer (some ⟨a, 0, none⟩)] w1 _) := fun w1 hf => num_any a l2 b2 B w1 (Hr.out.fr hf (by simp)) (H.out.quiet (Hb.out.trans hf)) hBa (by omega)
        have HQ : Hid (∀ w1, RdX w1 a2 (l2, b2) → Calls Tryd.prog 35 #[.pointer (some ⟨a2, 0, none⟩)] w1 _) := fun w1 hf => xnum_rd a2 l2 b2 w1 hf (by omega)
        generalize rnat (l2, b2) = qq at *
        obtain ⟨x, l4, f4⟩ := qq
        simp only at hok2 hln
        have Hok2 := Lib.hid hok2
        clear hok2
        go_wp2_with fail
        refine Hkc.out.mono ?_
        rintro e w4 ⟨rfl, hf4⟩
        have Hf4 := Lib.hid (Hb.out.trans hf4)
        have Hp := Lib.hid (HP.out w4 hf4)
        have Hx4 := Lib.hid (Hx.out.fr hf4 (by simp))
        clear hf4
        go_wp2_with fail
        refine Hp.out.mono ?_
        rintro e w5 ⟨rfl, hr5, hf5⟩
        have Hr5 := Lib.hid hr5
        have Hx5 := Lib.hid (Hx4.out.fr hf5 (by simp; omega))
        have Hf5 := Lib.hid (Hf4.out.then hf5 (fun j hj => .inr (by have e : j = a := (by simpa using hj); omega)))
        clear hr5 hf5
        go_wp2_with fail
        refine (HQ.out w5 Hx5.out).mono ?_
        rintro e w6 ⟨rfl, hx6, hf6⟩
        have Hx6 := Lib.hid hx6
        have Hr6 := Lib.hid (Hr5.out.fr hf6 (by simp; omega))
        have Hf6 := Lib.hid (Hf5.out.then hf6 (fun j hj => .inr (by have e : j = a2 := (by simpa using hj); omega)))
        clear hx6 hf6
        have HL1 := Lib.hid (left_any a (l4, f4) _ Hr6.out (by show l4.length ≤ _; omega))
        have HL2 := Lib.hid (xleft_any a2 (l4, f4) _ Hx6.out (by show l4.length ≤ _; omega))
        have HD1 := Lib.hid (done_any a (l4, f4) _ Hr6.out)
        have HD2 := Lib.hid (xdone_any a2 (l4, f4) _ Hx6.out)
        obtain ⟨dn, hdn⟩ : ∃ dn, dn = (!(l4, f4).2 && decide ((l4, f4).1 = [])) := ⟨_, rfl⟩
        rw [← hdn] at HD1 HD2
        clear hdn
        go_wp2_with fail
        refine HL1.out.mono ?_
        rintro e w8 ⟨rfl, rfl⟩
        go_wp2_with fail
        refine HL2.out.mono ?_
        rintro e w9 ⟨rfl, rfl⟩
        go_wp2_with fail
        refine HD1.out.mono ?_
        rintro e w8 ⟨rfl, rfl⟩
        go_wp2_with fail
        refine HD2.out.mono ?_
        rintro e w9 ⟨rfl, rfl⟩
        cases dn
        all_goals
          go_wp2
          go_roundg (zs.length - (i + 1))
          case measure => omega
          case rel => exact ⟨i + 1, (l4, f4), by go_num, by omega, rfl, Hr6.out, Hx6.out, Hok2.out, by show l4.length ≤ _; omega, Hf6.out⟩
      · rw [hk] at hkc
        have Hkc := Lib.hid hkc
        clear hkc hk
        have hok2 : Ok (rint (l2, b2)).2 := rnum_ok 59 (-9223372036854775808) _ Hok.out
        have hln : (rint (l2, b2)).2.1.length ≤ l2.length := (rnum_len 59 (-9223372036854775808) (l2, b2)).1
        have HP : Hid (∀ w1, Fr [] wr w1 → Calls Tryd.prog 26 #[.pointer (some ⟨a, 0, none⟩)] w1 _) := fun w1 hf => int_any a l2 b2 B w1 (Hr.out.fr hf (by simp)) (H.out.quiet (Hb.out.trans hf)) hBa (by omega)
        have HQ : Hid (∀ w1, RdX w1 a2 (l2, b2) → Calls Tryd.prog 36 #[.pointer (some ⟨a2, 0, none⟩)] w1 _) := fun w1 hf => xint_rd a2 l2 b2 w1 hf (by omega)
        generalize rint (l2, b2) = qq at *
        obtain ⟨x, l4, f4⟩ := qq
        simp only at hok2 hln
        have Hok2 := Lib.hid hok2
        clear hok2
        go_wp2_with fail
        refine Hkc.out.mono ?_
        rintro e w4 ⟨rfl, hf4⟩
        have Hf4 := Lib.hid (Hb.out.trans hf4)
        have Hp := Lib.hid (HP.out w4 hf4)
        have Hx4 := Lib.hid (Hx.out.fr hf4 (by simp))
        clear hf4
        go_wp2_with fail
        refine Hp.out.mono ?_
        rintro e w5 ⟨rfl, hr5, hf5⟩
        have Hr5 := Lib.hid hr5
        have Hx5 := Lib.hid (Hx4.out.fr hf5 (by simp; omega))
        have Hf5 := Lib.hid (Hf4.out.then hf5 (fun j hj => .inr (by have e : j = a := (by simpa using hj); omega)))
        clear hr5 hf5
        go_wp2_with fail
        refine (HQ.out w5 Hx5.out).mono ?_
        rintro e w6 ⟨rfl, hx6, hf6⟩
        have Hx6 := Lib.hid hx6
        have Hr6 := Lib.hid (Hr5.out.fr hf6 (by simp; omega))
        have Hf6 := Lib.hid (Hf5.out.then hf6 (fun j hj => .inr (by have e : j = a2 := (by simpa using hj); omega)))
        clear hx6 hf6
        have HL1 := Lib.hid (left_any a (l4, f4) _ Hr6.out (by show l4.length ≤ _; omega))
        have HL2 := Lib.hid (xleft_any a2 (l4, f4) _ Hx6.out (by show l4.length ≤ _; omega))
        have HD1 := Lib.hid (done_any a (l4, f4) _ Hr6.out)
        have HD2 := Lib.hid (xdone_any a2 (l4, f4) _ Hx6.out)
        obtain ⟨dn, hdn⟩ : ∃ dn, dn = (!(l4, f4).2 && decide ((l4, f4).1 = [])) := ⟨_, rfl⟩
        rw [← hdn] at HD1 HD2
        clear hdn
        go_wp2_with fail
        refine HL1.out.mono ?_
        rintro e w8 ⟨rfl, rfl⟩
        go_wp2_with fail
        refine HL2.out.mono ?_
        rintro e w9 ⟨rfl, rfl⟩
        go_wp2_with fail
        refine HD1.out.mono ?_
        rintro e w8 ⟨rfl, rfl⟩
        go_wp2_with fail
        refine HD2.out.mono ?_
        rintro e w9 ⟨rfl, rfl⟩
        cases dn
        all_goals
          go_wp2
          go_roundg (zs.length - (i + 1))
          case measure => omega
          case rel => exact ⟨i + 1, (l4, f4), by go_num, by omega, rfl, Hr6.out, Hx6.out, Hok2.out, by show l4.length ≤ _; omega, Hf6.out⟩
      · rw [hk] at hkc
        have Hkc := Lib.hid hkc
        clear hkc hk
        have hok2 : Ok (rtext (l2, b2)).2 := rtext_ok _ Hok.out
        have hln : (rtext (l2, b2)).2.1.length ≤ l2.length := (rtext_len (l2, b2)).1
        have HP : Hid (∀ w1, Fr [] wr w1 → Calls Tryd.prog 27 #[.pointer (some ⟨a, 0, none⟩)] w1 _) := fun w1 hf => text_any a l2 b2 B w1 (Hr.out.fr hf (by simp)) (H.out.quiet (Hb.out.trans hf)) hBa (by omega)
        have HQ : Hid (∀ w1, RdX w1 a2 (l2, b2) → Calls Tryd.prog 37 #[.pointer (some ⟨a2, 0, none⟩)] w1 _) := fun w1 hf => xtext_rd a2 l2 b2 w1 hf Hok.out (by omega)
        generalize rtext (l2, b2) = qq at *
        obtain ⟨x, l4, f4⟩ := qq
        simp only at hok2 hln
        have Hok2 := Lib.hid hok2
        clear hok2
        go_wp2_with fail
        refine Hkc.out.mono ?_
        rintro e w4 ⟨rfl, hf4⟩
        have Hf4 := Lib.hid (Hb.out.trans hf4)
        have Hp := Lib.hid (HP.out w4 hf4)
        have Hx4 := Lib.hid (Hx.out.fr hf4 (by simp))
        clear hf4
        go_wp2_with fail
        refine Hp.out.mono ?_
        rintro e w5 ⟨rfl, hr5, hf5⟩
        have Hr5 := Lib.hid hr5
        have Hx5 := Lib.hid (Hx4.out.fr hf5 (by simp; omega))
        have Hf5 := Lib.hid (Hf4.out.then hf5 (fun j hj => .inr (by have e : j = a := (by simpa using hj); omega)))
        clear hr5 hf5
        go_wp2_with fail
        refine (HQ.out w5 Hx5.out).mono ?_
        rintro e w6 ⟨rfl, hx6, hf6⟩
        have Hx6 := Lib.hid hx6
        have Hr6 := Lib.hid (Hr5.out.fr hf6 (by simp; omega))
        have Hf6 := Lib.hid (Hf5.out.then hf6 (fun j hj => .inr (by have e : j = a2 := (by simpa using hj); omega)))
        clear hx6 hf6
        have HL1 := Lib.hid (left_any a (l4, f4) _ Hr6.out (by show l4.length ≤ _; omega))
        have HL2 := Lib.hid (xleft_any a2 (l4, f4) _ Hx6.out (by show l4.length ≤ _; omega))
        have HD1 := Lib.hid (done_any a (l4, f4) _ Hr6.out)
        have HD2 := Lib.hid (xdone_any a2 (l4, f4) _ Hx6.out)
        obtain ⟨dn, hdn⟩ : ∃ dn, dn = (!(l4, f4).2 && decide ((l4, f4).1 = [])) := ⟨_, rfl⟩
        rw [← hdn] at HD1 HD2
        clear hdn
        go_wp2_with fail
        refine HL1.out.mono ?_
        rintro e w8 ⟨rfl, rfl⟩
        go_wp2_with fail
        refine HL2.out.mono ?_
        rintro e w9 ⟨rfl, rfl⟩
        go_wp2_with fail
        refine HD1.out.mono ?_
        rintro e w8 ⟨rfl, rfl⟩
        go_wp2_with fail
        refine HD2.out.mono ?_
        rintro e w9 ⟨rfl, rfl⟩
        cases dn
        all_goals
          go_wp2
          go_roundg (zs.length - (i + 1))
          case measure => omega
          case rel => exact ⟨i + 1, (l4, f4), by go_num, by omega, rfl, Hr6.out, Hx6.out, Hok2.out, by show l4.length ≤ _; omega, Hf6.out⟩
      · rw [hk] at hkc
        have Hkc := Lib.hid hkc
        clear hkc hk
        have hok2 : Ok (rlist rint (l2, b2)).2 := rlist_ok reads_int _ Hok.out
        have hln : (rlist rint (l2, b2)).2.1.length ≤ l2.length := (rlist_len reads_int (l2, b2)).1
        have HP : Hid (∀ w1, Fr [] wr w1 → Calls Tryd.prog 28 #[.pointer (some ⟨a, 0, none⟩)] w1 _) := fun w1 hf => rnums_any a l2 b2 B w1 (Hr.out.fr hf (by simp)) (H.out.quiet (Hb.out.trans hf)) hBa (by omega)
        have HQ : Hid (∀ w1, RdX w1 a2 (l2, b2) → Calls Tryd.prog 39 #[.pointer (some ⟨a2, 0, none⟩)] w1 _) := fun w1 hf => xnums_rd a2 l2 b2 w1 hf Hok.out (by omega)
        have hlb : (rlist rint (l2, b2)).1.length ≤ 400 := rlist_bound reads_int enc_pos_int l2 b2 hl2
        generalize rlist rint (l2, b2) = qq at *
        obtain ⟨x, l4, f4⟩ := qq
        simp only at hok2 hln hlb
        have Hok2 := Lib.hid hok2
        clear hok2
        go_wp2_with fail
        refine Hkc.out.mono ?_
        rintro e w4 ⟨rfl, hf4⟩
        have Hf4 := Lib.hid (Hb.out.trans hf4)
        have Hp := Lib.hid (HP.out w4 hf4)
        have Hx4 := Lib.hid (Hx.out.fr hf4 (by simp))
        clear hf4
        go_wp2_with fail
        refine Hp.out.mono ?_
        rintro e w5 ⟨v5, rfl, hown5, hr5, hf5⟩
        have Hr5 := Lib.hid hr5
        have Hx5 := Lib.hid (Hx4.out.fr hf5 (by simp; omega))
        have Ho5 := Lib.hid hown5
        have ha4 : a2 < w4.heap.size := Hx4.out.lt
        have Hf5 := Lib.hid (Hf4.out.then hf5 (fun j hj => .inr (by have e : j = a := (by simpa using hj); omega)))
        clear hr5 hf5 hown5
        go_wp2_with fail
        refine (HQ.out w5 Hx5.out).mono ?_
        rintro e w6 ⟨v6, rfl, hown6, hx6, hf6⟩
        have Ho56 := own_fr Ho5.out hf6 (fun k hk hin => by have := (own_fp Ho5.out k hk).1; have e : k = a2 := (by simpa using hin); omega)
        have hsa := SL.own Ho56 (Nat.le_refl _) (by omega)
        have hsb := SL.own hown6 (Nat.le_refl _) (by omega)
        have Hsame := Lib.hid (same_int x hsa hsb (by omega))
        have Hx6' := Lib.hid hx6
        have Hr6' := Lib.hid (Hr5.out.fr hf6 (by simp; omega))
        have Hf6' := Lib.hid (Hf5.out.then hf6 (fun j hj => .inr (by have e : j = a2 := (by simpa using hj); omega)))
        clear hx6 hf6 hown6 Ho56 hsa hsb
        go_wp2_with fail
        refine Hsame.out.mono ?_
        rintro e w7 ⟨rfl, hf7⟩
        have Hx6 := Lib.hid (Hx6'.out.fr hf7 (by simp))
        have Hr6 := Lib.hid (Hr6'.out.fr hf7 (by simp))
        have Hf6 := Lib.hid (Hf6'.out.trans hf7)
        clear hf7
        have HL1 := Lib.hid (left_any a (l4, f4) _ Hr6.out (by show l4.length ≤ _; omega))
        have HL2 := Lib.hid (xleft_any a2 (l4, f4) _ Hx6.out (by show l4.length ≤ _; omega))
        have HD1 := Lib.hid (done_any a (l4, f4) _ Hr6.out)
        have HD2 := Lib.hid (xdone_any a2 (l4, f4) _ Hx6.out)
        obtain ⟨dn, hdn⟩ : ∃ dn, dn = (!(l4, f4).2 && decide ((l4, f4).1 = [])) := ⟨_, rfl⟩
        rw [← hdn] at HD1 HD2
        clear hdn
        go_wp2_with fail
        refine HL1.out.mono ?_
        rintro e w8 ⟨rfl, rfl⟩
        go_wp2_with fail
        refine HL2.out.mono ?_
        rintro e w9 ⟨rfl, rfl⟩
        go_wp2_with fail
        refine HD1.out.mono ?_
        rintro e w8 ⟨rfl, rfl⟩
        go_wp2_with fail
        refine HD2.out.mono ?_
        rintro e w9 ⟨rfl, rfl⟩
        cases dn
        all_goals
          go_wp2
          go_roundg (zs.length - (i + 1))
          case measure => omega
          case rel => exact ⟨i + 1, (l4, f4), by go_num, by omega, rfl, Hr6.out, Hx6.out, Hok2.out, by show l4.length ≤ _; omega, Hf6.out⟩
      · rw [hk] at hkc
        have Hkc := Lib.hid hkc
        clear hkc hk
        have hok2 : Ok (rlist rtext (l2, b2)).2 := rlist_ok reads_text _ Hok.out
        have hln : (rlist rtext (l2, b2)).2.1.length ≤ l2.length := (rlist_len reads_text (l2, b2)).1
        have HP : Hid (∀ w1, Fr [] wr w1 → Calls Tryd.prog 29 #[.pointer (some ⟨a, 0, none⟩)] w1 _) := fun w1 hf => rtexts_any a l2 b2 B w1 (Hr.out.fr hf (by simp)) (H.out.quiet (Hb.out.trans hf)) hBa (by omega)
        have HQ : Hid (∀ w1, RdX w1 a2 (l2, b2) → Calls Tryd.prog 41 #[.pointer (some ⟨a2, 0, none⟩)] w1 _) := fun w1 hf => xtexts_rd a2 l2 b2 w1 hf Hok.out (by omega)
        have hlb : (rlist rtext (l2, b2)).1.length ≤ 400 := rlist_bound reads_text enc_pos_text l2 b2 hl2
        generalize rlist rtext (l2, b2) = qq at *
        obtain ⟨x, l4, f4⟩ := qq
        simp only at hok2 hln hlb
        have Hok2 := Lib.hid hok2
        clear hok2
        go_wp2_with fail
        refine Hkc.out.mono ?_
        rintro e w4 ⟨rfl, hf4⟩
        have Hf4 := Lib.hid (Hb.out.trans hf4)
        have Hp := Lib.hid (HP.out w4 hf4)
        have Hx4 := Lib.hid (Hx.out.fr hf4 (by simp))
        clear hf4
        go_wp2_with fail
        refine Hp.out.mono ?_
        rintro e w5 ⟨v5, rfl, hown5, hr5, hf5⟩
        have Hr5 := Lib.hid hr5
        have Hx5 := Lib.hid (Hx4.out.fr hf5 (by simp; omega))
        have Ho5 := Lib.hid hown5
        have ha4 : a2 < w4.heap.size := Hx4.out.lt
        have Hf5 := Lib.hid (Hf4.out.then hf5 (fun j hj => .inr (by have e : j = a := (by simpa using hj); omega)))
        clear hr5 hf5 hown5
        go_wp2_with fail
        refine (HQ.out w5 Hx5.out).mono ?_
        rintro e w6 ⟨v6, rfl, hown6, hx6, hf6⟩
        have Ho56 := own_fr Ho5.out hf6 (fun k hk hin => by have := (own_fp Ho5.out k hk).1; have e : k = a2 := (by simpa using hin); omega)
        have hsa := SL.own Ho56 (Nat.le_refl _) (by omega)
        have hsb := SL.own hown6 (Nat.le_refl _) (by omega)
        have Hsame := Lib.hid (same_str x hsa hsb (by omega))
        have Hx6' := Lib.hid hx6
        have Hr6' := Lib.hid (Hr5.out.fr hf6 (by simp; omega))
        have Hf6' := Lib.hid (Hf5.out.then hf6 (fun j hj => .inr (by have e : j = a2 := (by simpa using hj); omega)))
        clear hx6 hf6 hown6 Ho56 hsa hsb
        go_wp2_with fail
        refine Hsame.out.mono ?_
        rintro e w7 ⟨rfl, hf7⟩
        have Hx6 := Lib.hid (Hx6'.out.fr hf7 (by simp))
        have Hr6 := Lib.hid (Hr6'.out.fr hf7 (by simp))
        have Hf6 := Lib.hid (Hf6'.out.trans hf7)
        clear hf7
        have HL1 := Lib.hid (left_any a (l4, f4) _ Hr6.out (by show l4.length ≤ _; omega))
        have HL2 := Lib.hid (xleft_any a2 (l4, f4) _ Hx6.out (by show l4.length ≤ _; omega))
        have HD1 := Lib.hid (done_any a (l4, f4) _ Hr6.out)
        have HD2 := Lib.hid (xdone_any a2 (l4, f4) _ Hx6.out)
        obtain ⟨dn, hdn⟩ : ∃ dn, dn = (!(l4, f4).2 && decide ((l4, f4).1 = [])) := ⟨_, rfl⟩
        rw [← hdn] at HD1 HD2
        clear hdn
        go_wp2_with fail
        refine HL1.out.mono ?_
        rintro e w8 ⟨rfl, rfl⟩
        go_wp2_with fail
        refine HL2.out.mono ?_
        rintro e w9 ⟨rfl, rfl⟩
        go_wp2_with fail
        refine HD1.out.mono ?_
        rintro e w8 ⟨rfl, rfl⟩
        go_wp2_with fail
        refine HD2.out.mono ?_
        rintro e w9 ⟨rfl, rfl⟩
        cases dn
        all_goals
          go_wp2
          go_roundg (zs.length - (i + 1))
          case measure => omega
          case rel => exact ⟨i + 1, (l4, f4), by go_num, by omega, rfl, Hr6.out, Hx6.out, Hok2.out, by show l4.length ≤ _; omega, Hf6.out⟩
    · have hii : i = zs.length := by omega
      subst hii
      have Hrest := Lib.hid (rest_any a (l2, b2) _ Hr.out)
      go_wp2_with fail
      refine Hrest.out.mono ?_
      rintro e w4 ⟨rfl, hr4, hf4⟩
      have Hr4 := Lib.hid hr4
      have Hx4 := Lib.hid (Hx.out.fr hf4 (by simp; omega))
      have Hf4 := Lib.hid (Hb.out.then hf4 (fun j hj => .inr (by have e : j = a := (by simpa using hj); omega)))
      clear hr4 hf4
      go_wp2_with fail
      refine (xtail_any a2 (l2, b2) _ Hx4.out).mono ?_
      rintro e w5 ⟨rfl, hx5, hf5⟩
      have Hr5 := Lib.hid (Hr4.out.fr hf5 (by simp; omega))
      have Hx5 := Lib.hid hx5
      have Hf5 := Lib.hid (Hf4.out.then hf5 (fun j hj => .inr (by have e : j = a2 := (by simpa using hj); omega)))
      clear hx5 hf5
      have HL1 := Lib.hid (left_any a ([], b2) _ Hr5.out (by show (0 : Nat) ≤ _; omega))
      have HL2 := Lib.hid (xleft_any a2 ([], b2) _ Hx5.out (by show (0 : Nat) ≤ _; omega))
      have HD1 := Lib.hid (done_any a ([], b2) _ Hr5.out)
      have HD2 := Lib.hid (xdone_any a2 ([], b2) _ Hx5.out)
      go_wp2_with fail
      refine HL1.out.mono ?_
      rintro e w8 ⟨rfl, rfl⟩
      go_wp2_with fail
      refine HL2.out.mono ?_
      rintro e w9 ⟨rfl, rfl⟩
      go_wp2_with fail
      refine HD1.out.mono ?_
      rintro e w8 ⟨rfl, rfl⟩
      go_wp2_with fail
      refine HD2.out.mono ?_
      rintro e w9 ⟨rfl, rfl⟩
      cases b2
      all_goals
        go_wp2
        go_ret
        exact ⟨rfl, Hf5.out⟩

end Go.Proofs.YthajdajhclpaaaaDoor