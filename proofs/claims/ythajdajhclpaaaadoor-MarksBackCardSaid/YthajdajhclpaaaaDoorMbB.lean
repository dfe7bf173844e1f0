/- Layer 35: MarksBack. -/
import Derived.Test.YthajdajhclpaaaaDoorMbR
import Derived.Test.YthajdajhclpaaaaDoorMbF
namespace Go.Proofs.YthajdajhclpaaaaDoor
open Go.RowKit Go.Shelf Wr

/-- The cells of one operation in a list. -/
theorem three {w wr : World} {b off : Nat} {l : List (Int × Int × Int)} (hca : Came w b off (opCells l)) (hf : Fr [] w wr) (i : Nat) (x : Int × Int × Int) (h : l[i]? = some x) :
    wr.cell? ⟨b, off + i * 3, none⟩ = some (.int .i64 x.1) ∧ wr.cell? ⟨b, off + i * 3 + 1, none⟩ = some (.int .i64 x.2.1) ∧ wr.cell? ⟨b, off + i * 3 + 2, none⟩ = some (.int .i64 x.2.2) := by
  obtain ⟨hl, rfl⟩ := List.getElem?_eq_some_iff.1 h
  have hcw := hca.of_block hf.size (hf.block _ hca.1 (by simp))
  obtain ⟨h0, h1, h2⟩ := opCells_at l i hl
  have c0 := hcw.2 _ _ h0
  have c1 := hcw.2 _ _ h1
  have c2 := hcw.2 _ _ h2
  rw [← Nat.add_assoc] at c1 c2
  exact ⟨c0, c1, c2⟩
theorem fpA_lt {w : World} {a : Nat} {A : Option Addr} {c : Nat} {ins : List (Int × Bool)} {com : Int} (h : Trk w a A c ins com) (hne : ins ≠ []) : ∀ k, k ∈ fpA a A → k < w.heap.size := by
  intro k hk
  rcases List.mem_cons.1 hk with rfl | hk
  · exact h.row.lt
  · rcases h.inp with h1 | ⟨g, sp, rfl, hr⟩
    · exact absurd h1 hne
    · have e : k = g := by simpa using hk
      subst e
      exact hr.lt

set_option maxRecDepth 100000 in
set_option maxHeartbeats 4000000 in
theorem mback_out (n : Int) (A1 A2 : Option Addr) (n1 n2 c1 c2 B : Nat) (tl : List UInt8) (w : World) (h : LW B w) (hbad : n1 > 100 ∨ n2 > 20 ∨ tl.length > 1000) :
    Calls Tryd.prog 9 #[.int .i64 n, .slice A1 n1 c1, .slice A2 n2 c2, .string ⟨tl.toArray⟩] w fun e w' => e = .returned (.bool true) ∧ Fr [] w w' := by
  have Hs := Lib.hid (small_any w)
  have hst := size_l tl
  by_cases h1 : (100 : Int) < n1
  · go_enter Tryd.func9, Tryd.ntmps9
    go_wp2_with fail
    refine Hs.out.mono ?_
    rintro e w1 ⟨rfl, hf1⟩
    have Hf1 := Lib.hid hf1
    clear hf1
    go_wp2_with fail
    refine (new_any n _).mono ?_
    rintro e w2 ⟨a, g, rfl, ha, hg, hag, htrk, hf2⟩
    have Hf2 := Lib.hid (Hf1.out.trans hf2)
    clear hf2 htrk ha hg hag
    go_wp2
    go_ret
    exact ⟨rfl, Hf2.out⟩
  have hd1 : decide ((100 : Int) < n1) = false := decide_eq_false h1
  by_cases h2 : (20 : Int) < n2
  · go_enter Tryd.func9, Tryd.ntmps9
    go_wp2_with fail
    refine Hs.out.mono ?_
    rintro e w1 ⟨rfl, hf1⟩
    have Hf1 := Lib.hid hf1
    clear hf1
    go_wp2_with fail
    refine (new_any n _).mono ?_
    rintro e w2 ⟨a, g, rfl, ha, hg, hag, htrk, hf2⟩
    have Hf2 := Lib.hid (Hf1.out.trans hf2)
    clear hf2 htrk ha hg hag
    go_wp2
    go_ret
    exact ⟨rfl, Hf2.out⟩
  have hd2 : decide ((20 : Int) < n2) = false := decide_eq_false h2
  have h3 : (1000 : Int) < tl.length := by omega
  go_enter Tryd.func9, Tryd.ntmps9
  go_wp2_with fail
  refine Hs.out.mono ?_
  rintro e w1 ⟨rfl, hf1⟩
  have Hf1 := Lib.hid hf1
  clear hf1
  go_wp2_with fail
  refine (new_any n _).mono ?_
  rintro e w2 ⟨a, g, rfl, ha, hg, hag, htrk, hf2⟩
  have Hf2 := Lib.hid (Hf1.out.trans hf2)
  clear hf2 htrk ha hg hag
  go_wp2
  go_ret
  exact ⟨rfl, Hf2.out⟩

set_option maxRecDepth 100000 in
set_option maxHeartbeats 8000000 in
theorem mback_main (n : Int) (A1 A2 : Option Addr) (c1 c2 B : Nat) (l more : List (Int × Int × Int)) (tl : List UInt8) (w : World) (h : LW B w) (hn1 : l.length ≤ 100) (hn2 : more.length ≤ 20) (ht : tl.length ≤ 1000)
    (hA1 : 0 < l.length → ∃ b off, A1 = some ⟨b, off, none⟩ ∧ Came w b off (opCells l)) (hA2 : 0 < more.length → ∃ b off, A2 = some ⟨b, off, none⟩ ∧ Came w b off (opCells more)) :
    Calls Tryd.prog 9 #[.int .i64 n, .slice A1 l.length c1, .slice A2 more.length c2, .string ⟨tl.toArray⟩] w fun e w' => e = .returned (.bool true) ∧ Fr [] w w' := by
  have H := Lib.hid h
  have HA1 := Lib.hid hA1
  have HA2 := Lib.hid hA2
  have Hs := Lib.hid (small_any w)
  have hst := size_l tl
  have hwB := h.le
  have hd1 : decide ((100 : Int) < (l.length : Int)) = false := decide_eq_false (by omega)
  have hd2 : decide ((20 : Int) < (more.length : Int)) = false := decide_eq_false (by omega)
  have hd3 : decide ((1000 : Int) < (tl.length : Int)) = false := decide_eq_false (by omega)
  clear h hA1 hA2
  go_enter Tryd.func9, Tryd.ntmps9
  go_wp2_with fail
  refine Hs.out.mono ?_
  rintro e w1 ⟨rfl, hf1⟩
  have Hf1 := Lib.hid hf1
  clear hf1
  go_wp2_with fail
  refine (new_all n _).mono ?_
  rintro e w2 ⟨a, g, rfl, ha, hg, hag, htrk, hf2, hgl⟩
  have Hf2 := Lib.hid (Hf1.out.trans hf2)
  have hwa : w.heap.size ≤ a := Nat.le_trans Hf1.out.size ha
  have hwg : w.heap.size ≤ g := Nat.le_trans Hf1.out.size hg
  have Htrk := Lib.hid htrk
  have Hfit := Lib.hid (fit_new n)
  have hfp : Hid (∀ k, k ∈ fpA a (some ⟨g, 0, none⟩) → w.heap.size ≤ k) := fun k hk => by
    simp only [fpA, Option.map_some, Option.toList_some, List.mem_cons, List.not_mem_nil, or_false] at hk
    rcases hk with rfl | rfl <;> assumption
  have hal : a < w2.heap.size := htrk.row.lt
  clear hf2 htrk ha hg
  go_wp2
  go_loopg [11] l.length (fun gk v11 wr => ∃ (i : Nat) (ins : List (Int × Bool)) (com : Int), v11 = .int .i64 i ∧ i ≤ l.length ∧ gk = l.length - i ∧ Trk wr a (some ⟨g, 0, none⟩) (cnt n) ins com ∧ Mk.Fit ins com ∧ Fr [] w wr ∧ w2.heap.size ≤ wr.heap.size)
  case atStart => exact ⟨0, _, _, rfl, Nat.zero_le _, rfl, Htrk.out, Hfit.out, Hf2.out, Nat.le_refl _⟩
  case round =>
    obtain ⟨i, ins, com, rfl, hi, rfl, htrk, hfit, hf, hz⟩ := hrel
    have Ht := Lib.hid htrk
    have Hft := Lib.hid hfit
    have Hf := Lib.hid hf
    clear htrk hfit hf
    by_cases hlt : i < l.length
    · obtain ⟨b, off, rfl, hca⟩ := HA1.out (by omega)
      obtain ⟨x, hxi⟩ : ∃ x, l[i]? = some x := ⟨_, List.getElem?_eq_getElem hlt⟩
      obtain ⟨k0, k1, k2⟩ := three hca Hf.out i x hxi
      obtain ⟨d, ii, m⟩ := x
      simp only at k0 k1 k2
      have Hfd := Lib.hid (fit_do Hft.out d ii m)
      clear hca hxi
      go_wp2_with fail
      refine (do_any Ht.out d ii m).mono ?_
      rintro e w3 ⟨rfl, ht3, hf3⟩
      have Ht3 := Lib.hid ht3
      have Hf3 := Lib.hid (Hf.out.then hf3 (fun j hj => .inr (hfp.out j hj)))
      have hz3 : w2.heap.size ≤ w3.heap.size := Nat.le_trans hz hf3.size
      clear ht3 hf3
      go_wp2
      go_roundg (l.length - (i + 1))
      case measure => omega
      case rel => exact ⟨i + 1, _, _, by go_num, by omega, rfl, Ht3.out, Hfd.out, Hf3.out, hz3⟩
    · have hii : i = l.length := by omega
      subst hii
      have Hb := Lib.hid (mbytes_any Ht.out (H.out.quiet Hf.out) (fun x hx => Mk.okT_i64 (Hft.out.each x hx)) (Mk.okT_i64 Hft.out.cm))
      have hel := encM_len Hft.out
      obtain ⟨r1, r2, r3⟩ := Mk.read_enc Hft.out
      have HR : Hid (∀ w1, Fr [] w w1 → Calls Tryd.prog 49 #[.string ⟨(Mk.encM ins com).toArray⟩] w1 fun e w' => Fr [] w1 w' ∧ ∃ a2 A2 c2, e = .returned (.tuple #[.pointer (some ⟨a2, 0, none⟩), .bool true]) ∧ (∀ k, k ∈ fpA a2 A2 → w1.heap.size ≤ k) ∧ Trk w' a2 A2 c2 ins com) := fun w1 h1 => (mread_any _ (by omega) (H.out.quiet h1)).mono fun e w' hs => by
        obtain ⟨hs1, hs2⟩ := hs
        rcases hs2 with ⟨a2, A2, c2, e1, e2, _, e3⟩ | ⟨e1, _⟩
        · rw [r2, r3] at e3
          exact ⟨hs1, a2, A2, c2, e1, e2, e3⟩
        · exact absurd r1 e1
      clear r1 r2 r3 hel
      generalize hen : Mk.encM ins com = en at *
      clear hen
      go_wp2_with fail
      refine Hb.out.mono ?_
      rintro e w3 ⟨rfl, hf3⟩
      have Ht3 := Lib.hid (Ht.out.fr hf3 (by simp))
      have Hf3 := Lib.hid (Hf.out.trans hf3)
      have hz3 : w2.heap.size ≤ w3.heap.size := Nat.le_trans hz hf3.size
      clear hf3 Hb
      go_wp2_with fail
      refine (HR.out _ Hf3.out).mono ?_
      rintro e w4 ⟨hf4, a2, A2', c2', rfl, hb4, ht4⟩
      have Ht4 := Lib.hid (Ht3.out.fr hf4 (by simp))
      have Hf4 := Lib.hid (Hf3.out.trans hf4)
      have Hu4 := Lib.hid ht4
      have HB4 := Lib.hid hb4
      have hz4 : w3.heap.size ≤ w4.heap.size := hf4.size
      have hzw : w.heap.size ≤ w3.heap.size := Hf3.out.size
      have Hsep : Hid (∀ k, k ∈ fpA a2 A2' → k ∉ fpA a (some ⟨g, 0, none⟩)) := fun k hk hin => by
        have h1 := hb4 k hk
        simp only [fpA, Option.map_some, Option.toList_some, List.mem_cons, List.not_mem_nil, or_false] at hin
        rcases hin with rfl | rfl <;> omega
      clear hf4 ht4 hb4 HR
      go_wp2
      go_loopg [14] more.length (fun gk v14 wr => ∃ (i : Nat) (ins : List (Int × Bool)) (com : Int), v14 = .int .i64 i ∧ i ≤ more.length ∧ gk = more.length - i ∧ Trk wr a (some ⟨g, 0, none⟩) (cnt n) ins com ∧ Trk wr a2 A2' c2' ins com ∧ Mk.Fit ins com ∧ Fr [] w wr)
      case atStart => exact ⟨0, _, _, rfl, Nat.zero_le _, rfl, Ht4.out, Hu4.out, Hft.out, Hf4.out⟩
      case round =>
        obtain ⟨i, ins, com, rfl, hi2, rfl, htrk, hutrk, hfit, hf⟩ := hrel
        have Ht := Lib.hid htrk
        have Hu := Lib.hid hutrk
        have Hft := Lib.hid hfit
        have Hf := Lib.hid hf
        clear htrk hutrk hfit hf
        by_cases hlt : i < more.length
        · obtain ⟨b, off, rfl, hca⟩ := HA2.out (by omega)
          obtain ⟨x, hxi⟩ : ∃ x, more[i]? = some x := ⟨_, List.getElem?_eq_getElem hlt⟩
          have hbl : b < w.heap.size := hca.1
          have HT : Hid (∀ wx, Fr [] w wx → wx.cell? ⟨b, off + i * 3, none⟩ = some (.int .i64 x.1) ∧ wx.cell? ⟨b, off + i * 3 + 1, none⟩ = some (.int .i64 x.2.1) ∧ wx.cell? ⟨b, off + i * 3 + 2, none⟩ = some (.int .i64 x.2.2)) := fun wx hf => three hca hf i x hxi
          obtain ⟨d, ii, m⟩ := x
          simp only at HT
          have Hfd := Lib.hid (fit_do Hft.out d ii m)
          have hfd := Hf.out.drew
          clear hca hxi
          have D1 := Lib.hid (do_any Ht.out.drew d ii m)
          have D2 : Hid (∀ w1, Trk w1 a2 A2' c2' ins com → Calls Tryd.prog 48 #[.pointer (some ⟨a2, 0, none⟩), .agg #[.int .i64 d, .int .i64 ii, .int .i64 m]] w1 fun e w' => e = .returned (.int .i64 (doE ins d ii m)) ∧ Trk w' a2 A2' c2' (doS ins com d ii m).1 (doS ins com d ii m).2 ∧ Fr (fpA a2 A2') w1 w') := fun w1 h1 => do_any h1 d ii m
          generalize doE ins d ii m = er at *
          generalize hds : doS ins com d ii m = ds at *
          obtain ⟨ins2, com2⟩ := ds
          clear hds
          simp only at D1 D2 Hfd
          go_wp2_with fail
          go_region_held3 (fun wx => wx.cell? ⟨b, off + i * 3, none⟩ = some (.int .i64 d) ∧ wx.cell? ⟨b, off + i * 3 + 1, none⟩ = some (.int .i64 ii) ∧ wx.cell? ⟨b, off + i * 3 + 2, none⟩ = some (.int .i64 m)) (exact HT.out _ (by assumption)) (first
            | (go_at_call_of 48 (Value.pointer (some ⟨a, 0, none⟩)); refine D1.out.mono ?_; rintro e w5 ⟨rfl, ht5, hf5⟩; have Ht5 := Lib.hid ht5; have Hu5 := Lib.hid (Hu.out.drew.fr hf5 Hsep.out); have hw5 : Fr [] w w5 := hfd.then hf5 (fun j hj => .inr (hfp.out j hj)); clear ht5 hf5)
            | (go_at_call 48; refine (D2.out _ Hu5.out).mono ?_; rintro e w6 ⟨rfl, hu6, hf6⟩; have Hu6 := Lib.hid hu6; have Ht6 := Lib.hid (Ht5.out.fr hf6 (fun k hk hin => Hsep.out k hin hk)); have hw6 : Fr [] w w6 := hw5.then hf6 (fun j hj => .inr (by have := HB4.out j hj; omega)); clear hu6 hf6)
            | (go_at_call_of 51 (Value.pointer (some ⟨a, 0, none⟩)); refine (mark_any Ht6.out).mono ?_; rintro e w7 ⟨rfl, rfl⟩)
            | (go_at_call 51; refine (mark_any Hu6.out).mono ?_; rintro e w8 ⟨rfl, rfl⟩))
          all_goals
            go_wp2
            go_roundg (more.length - (i + 1))
            case measure => omega
            case rel => exact ⟨i + 1, _, _, by go_num, by omega, rfl, Ht6.out, Hu6.out, Hfd.out, hw6⟩
        · have hii : i = more.length := by omega
          subst hii
          have HRd : Hid (∀ w1, Fr [] w w1 → Calls Tryd.prog 49 #[.string ⟨tl.toArray⟩] w1 (ReadSays tl w1)) := fun w1 h1 => mread_any tl (by omega) (H.out.quiet h1)
          have HM1 : Hid (∀ w1, Fr [] wr w1 → Calls Tryd.prog 50 #[.pointer (some ⟨a, 0, none⟩)] w1 fun e w' => e = .returned (.string ⟨(Mk.encM ins com).toArray⟩) ∧ Fr [] w1 w') := fun w1 h1 => mbytes_any (Ht.out.fr h1 (by simp)) (H.out.quiet (Hf.out.trans h1)) (fun x hx => Mk.okT_i64 (Hft.out.each x hx)) (Mk.okT_i64 Hft.out.cm)
          have HM2 : Hid (∀ w1, Fr [] wr w1 → Calls Tryd.prog 50 #[.pointer (some ⟨a2, 0, none⟩)] w1 fun e w' => e = .returned (.string ⟨(Mk.encM ins com).toArray⟩) ∧ Fr [] w1 w') := fun w1 h1 => mbytes_any (Hu.out.fr h1 (by simp)) (H.out.quiet (Hf.out.trans h1)) (fun x hx => Mk.okT_i64 (Hft.out.each x hx)) (Mk.okT_i64 Hft.out.cm)
          generalize Mk.encM ins com = en2 at *
          go_wp2_with fail
          refine (HRd.out _ Hf.out).mono ?_
          rintro e w5 ⟨hf5, ⟨a5, A5, c5, rfl, _, hok, ht5⟩ | ⟨_, rfl⟩⟩
          · obtain ⟨hsd, hfit5⟩ := Mk.read_said hok
            have HM5 := Lib.hid (mbytes_any ht5 (H.out.quiet (Hf.out.trans hf5)) (fun x hx => Mk.okT_i64 (hfit5.each x hx)) (Mk.okT_i64 hfit5.cm))
            rw [hsd] at HM5
            have Hf5 := Lib.hid hf5
            clear hok ht5 hsd hfit5 hf5
            go_wp2_with fail
            refine HM5.out.mono ?_
            rintro e w6 ⟨rfl, hf6⟩
            have Hf6 := Lib.hid (Hf5.out.trans hf6)
            clear hf6
            go_wp2_with fail
            refine (HM1.out _ Hf6.out).mono ?_
            rintro e w7 ⟨rfl, hf7⟩
            have Hf7 := Lib.hid (Hf6.out.trans hf7)
            clear hf7
            go_wp2_with fail
            refine (HM2.out _ Hf7.out).mono ?_
            rintro e w8 ⟨rfl, hf8⟩
            have Hf8 := Lib.hid (Hf7.out.trans hf8)
            clear hf8
            go_wp2
            go_ret
            exact ⟨rfl, Hf.out.trans Hf8.out⟩
          · have Hf5 := Lib.hid hf5
            clear hf5
            go_wp2_with fail
            refine (HM1.out _ Hf5.out).mono ?_
            rintro e w7 ⟨rfl, hf7⟩
            have Hf7 := Lib.hid (Hf5.out.trans hf7)
            clear hf7
            go_wp2_with fail
            refine (HM2.out _ Hf7.out).mono ?_
            rintro e w8 ⟨rfl, hf8⟩
            have Hf8 := Lib.hid (Hf7.out.trans hf8)
            clear hf8
            go_wp2
            go_ret
            exact ⟨rfl, Hf.out.trans Hf8.out⟩
theorem mback_any (n : Int) (A1 A2 : Option Addr) (c1 c2 B : Nat) (l more : List (Int × Int × Int)) (tl : List UInt8) (w : World) (h : LW B w)
    (hA1 : 0 < l.length → ∃ b off, A1 = some ⟨b, off, none⟩ ∧ Came w b off (opCells l)) (hA2 : 0 < more.length → ∃ b off, A2 = some ⟨b, off, none⟩ ∧ Came w b off (opCells more)) :
    Calls Tryd.prog 9 #[.int .i64 n, .slice A1 l.length c1, .slice A2 more.length c2, .string ⟨tl.toArray⟩] w fun e w' => e = .returned (.bool true) ∧ Fr [] w w' := by
  by_cases hb : l.length > 100 ∨ more.length > 20 ∨ tl.length > 1000
  · exact mback_out n A1 A2 _ _ c1 c2 B tl w h hb
  · exact mback_main n A1 A2 c1 c2 B l more tl w h (by omega) (by omega) (by omega) hA1 hA2

end Go.Proofs.YthajdajhclpaaaaDoor