/- The reference of layer 1: lists are read. (Printed by genxitems.py.) -/
import Derived.Test.YthajdajhclpaaaaDoorRefT
namespace Go.Proofs.YthajdajhclpaaaaDoor
open Go.RowKit Go.Shelf Wr

set_option maxRecDepth 100000 in
set_option maxHeartbeats 2000000 in
theorem xnums_rd (a : Nat) (l : List UInt8) (b : Bool) (w : World) (h : RdX w a (l, b)) (hok : b = true → l = []) (hl : l.length ≤ 100000) :
    Calls Tryd.prog 39 #[.pointer (some ⟨a, 0, none⟩)] w fun en w' => ∃ v, en = .returned v ∧
      w'.ownsRow w.heap.size 3 1 v (rlist rint (l, b)).1.length ((rlist rint (l, b)).1.map (Value.int .i64)) ∧ RdX w' a (rlist rint (l, b)).2 ∧ Fr [a] w w' := by
  have hx := xnumber_any a l b w h 91 91 (by decide) ends91 (by omega)
  obtain ⟨b0, b1, b2⟩ := rnum_bounds 91 0 (by decide) ⟨by decide, by decide⟩ l b
  have hok1 : Ok (rnum 91 0 (l, b)).2 := rnum_ok 91 0 (l, b) hok
  have hrl := rlist_eq rint (l, b)
  generalize rlist rint (l, b) = fin at *
  generalize rnum 91 0 (l, b) = q at *
  obtain ⟨n, l1, f1⟩ := q
  simp only at hx b0 b1 b2 hrl hok1
  obtain ⟨m0, rfl⟩ : ∃ k : Nat, n = k := ⟨n.toNat, by omega⟩
  rw [Int.toNat_natCast] at hrl
  have Hx := Lib.hid hx
  have Hrl := Lib.hid hrl
  have Hok1 := Lib.hid hok1
  have hal := h.lt
  have hb1 : (m0 : Int) ≤ 9223372036854775807 := b1.2
  clear h hx hrl b0 b1 hok hok1
  go_enter Tryd.func39, Tryd.ntmps39
  go_wp2_with fail
  refine Hx.out.mono ?_
  rintro e w1 ⟨rfl, h1, h2⟩
  have H1 := Lib.hid h1
  have H2 := Lib.hid h2
  clear h1 h2 Hx
  go_wp2
  go_loopg [4, 5] m0 (fun gk v4 v5 wr => ∃ (i : Nat) (xs : List (Int)) (l2 : List UInt8) (f2 : Bool), v5 = .int .i64 i ∧ i ≤ m0 ∧ m0 - i = gk ∧ wr.ownsRow w.heap.size 3 1 v4 xs.length (xs.map (Value.int .i64)) ∧ RdX wr a (l2, f2) ∧ Fr [a] w wr ∧ xs.length ≤ l.length + 1 ∧ l2.length ≤ l.length ∧ (f2 = false → xs.length + l2.length ≤ l.length) ∧ Ok (l2, f2) ∧
    ritems rint m0 (l1, f1) = (xs ++ (ritems rint (m0 - i) (l2, f2)).1, (ritems rint (m0 - i) (l2, f2)).2))
  case atStart => exact ⟨0, [], l1, f1, rfl, Nat.zero_le _, rfl, own_nil _ _ _ H2.out.size, H1.out, H2.out, by simp, b2, fun _ => by simpa using b2, Hok1.out, by simp⟩
  case round =>
    obtain ⟨i, xs, l2, f2, rfl, hi, rfl, hown, hrd, hfr, hx1, hx2, hx3, hokk, hit⟩ := hrel
    have Hown := Lib.hid hown
    have Hrd := Lib.hid hrd
    have Hfr := Lib.hid hfr
    have Hit := Lib.hid hit
    have Hokk := Lib.hid hokk
    have c1 : wr.cell? ⟨a, 1, none⟩ = some (.bool f2) := hrd.c1
    clear hown hrd hfr hit H1 H2 hokk
    cases f2 with
    | true =>
      have hl2 : l2 = [] := Hokk.out rfl
      subst hl2
      have hfin := Hrl.out
      have e1 : ritems rint (m0 - i) (([] : List UInt8), true) = ([], ([], true)) := by
        cases m0 - i <;> rfl
      rw [Hit.out, e1, List.append_nil] at hfin
      have e2 : rclose 93 (([] : List UInt8), true) = dead := rfl
      simp only at hfin
      rw [e2, if_pos (show dead.2 = true from rfl)] at hfin
      have Hfin := Lib.hid hfin
      clear hfin e1 e2
      by_cases him : (i : Int) < m0
      all_goals
        go_wp2
        go_ret
        rw [Hfin.out]
        exact ⟨_, rfl, own_nil _ _ _ Hfr.out.size, Hrd.out, Hfr.out⟩
    | false =>
      by_cases hlt : i < m0
      · obtain ⟨m, hm⟩ : ∃ m, m0 - i = m + 1 := ⟨m0 - i - 1, by omega⟩
        have hone := xint_rd a l2 false wr Hrd.out (by omega)
        obtain ⟨t1, t2⟩ : (rint (l2, false)).2.1.length ≤ l2.length ∧ ((rint (l2, false)).2.2 = false → (rint (l2, false)).2.1.length + 1 ≤ l2.length) := takes_num 59 (-9223372036854775808) l2
        have hok4 : Ok (rint (l2, false)).2 := reads_int.keepOk (l2, false) Hokk.out
        have hit2 : ritems rint (m + 1) (l2, false) = ((rint (l2, false)).1 :: (ritems rint m (rint (l2, false)).2).1, (ritems rint m (rint (l2, false)).2).2) := rfl
        have hit3 := Hit.out
        rw [hm, hit2] at hit3
        generalize rint (l2, false) = q3 at *
        obtain ⟨x, l4, f4⟩ := q3
        simp only at hone t1 t2 hit3 hok4
        have Hone := Lib.hid hone
        have Hit3 := Lib.hid hit3
        have Hok4 := Lib.hid hok4
        have hx3' := hx3 rfl
        have Hm := Lib.hid hm
        clear hone hit2 hit3 Hit hx3 hok4 hm
        have hlt' : (i : Int) < m0 := by omega
        go_wp2_with fail
        refine Hone.out.mono ?_
        rintro e w3 ⟨rfl, h5, h6⟩
        have H5 := Lib.hid h5
        have H6 := Lib.hid h6
        have hown3 : w3.ownsRow w.heap.size 3 1 u4 xs.length (xs.map (Value.int .i64)) := own_fr Hown.out h6 (fun k hk hin => by have := (own_fp Hown.out k hk).1; have e : k = a := (by simpa using hin); omega)
        have Hown3 := Lib.hid hown3
        have hz3 : w.heap.size ≤ w3.heap.size := Nat.le_trans Hfr.out.size h6.size
        clear h5 h6 hown3
        go_wp2_with (at_builtin; refine wpList_app rfl (.tmp 20) (.tmp 23) 22 rfl w.heap.size 3 _ 1 8 Tryd.underlying22 info_it_int rfl (by decide) _ _ _ rfl (Hown3.out.alloc _) _ 3 _ rfl (row_new _ _ _ _ (by simp)) (by rfl) (by simp [Value.oneCell', bsv]) (by omega) (by omega) (by simp; omega) ?_; intro g' c' w4 hown4 hfr4)
        have Hown4 := Lib.hid hown4
        have Hfr4 := Lib.hid hfr4
        have hr4 : RdX w4 a (l4, f4) := (Row.alloc H5.out _).fr hfr4 (fun hin => by have := (own_fp Hown3.out a hin).1; omega)
        have Hr4 := Lib.hid hr4
        clear hown4 hfr4 hr4
        go_wp2
        go_roundg (m0 - (i + 1))
        case measure => have := Hm.out; omega
        case rel =>
          refine ⟨i + 1, xs ++ [x], l4, f4, by go_num, by omega, rfl, ?_, Hr4.out, ?_, ?_, by omega, ?_, Hok4.out, ?_⟩
          · rw [List.length_append, List.map_append]
            exact Hown4.out
          · exact ((Hfr.out.trans H6.out).alloc _).then Hfr4.out (fun k hk => .inr (own_fp Hown3.out k hk).1)
          · rw [List.length_append]
            simp
            omega
          · intro hf
            have := t2 hf
            rw [List.length_append]
            simp
            omega
          · have hm1 := Hm.out
            rw [show m0 - (i + 1) = m by omega, Hit3.out, List.append_assoc]
            rfl
      · have him : i = m0 := by omega
        subst him
        have hfin := Hrl.out
        rw [Hit.out, Nat.sub_self] at hfin
        have e1 : ritems rint 0 (l2, false) = ([], (l2, false)) := rfl
        rw [e1, List.append_nil] at hfin
        have Hfin := Lib.hid hfin
        clear hfin e1
        go_wp2_with fail
        refine (xclose_any a l2 wr Hrd.out 93 93 (by decide) (by omega)).mono ?_
        rintro e w2 ⟨rfl, h3, h4⟩
        have hfin := Hfin.out
        generalize rclose 93 (l2, false) = q2 at *
        obtain ⟨l3, f3⟩ := q2
        have H3 := Lib.hid h3
        have H4 := Lib.hid h4
        have Hfin2 := Lib.hid hfin
        clear h3 h4 hfin Hfin
        cases f3 with
        | true =>
          go_wp2
          go_ret
          rw [Hfin2.out]
          exact ⟨_, rfl, own_nil _ _ _ (Nat.le_trans Hfr.out.size H4.out.size), H3.out, Hfr.out.trans H4.out⟩
        | false =>
          go_wp2
          go_ret
          rw [Hfin2.out]
          exact ⟨_, rfl, own_fr Hown.out H4.out (fun k hk hin => by have := (own_fp Hown.out k hk).1; have e : k = a := (by simpa using hin); omega), H3.out, Hfr.out.trans H4.out⟩

set_option maxRecDepth 100000 in
set_option maxHeartbeats 2000000 in
theorem xtexts_rd (a : Nat) (l : List UInt8) (b : Bool) (w : World) (h : RdX w a (l, b)) (hok : b = true → l = []) (hl : l.length ≤ 100000) :
    Calls Tryd.prog 41 #[.pointer (some ⟨a, 0, none⟩)] w fun en w' => ∃ v, en = .returned v ∧
      w'.ownsRow w.heap.size 9 1 v (rlist rtext (l, b)).1.length ((rlist rtext (l, b)).1.map bsv) ∧ RdX w' a (rlist rtext (l, b)).2 ∧ Fr [a] w w' := by
  have hx := xnumber_any a l b w h 91 91 (by decide) ends91 (by omega)
  obtain ⟨b0, b1, b2⟩ := rnum_bounds 91 0 (by decide) ⟨by decide, by decide⟩ l b
  have hok1 : Ok (rnum 91 0 (l, b)).2 := rnum_ok 91 0 (l, b) hok
  have hrl := rlist_eq rtext (l, b)
  generalize rlist rtext (l, b) = fin at *
  generalize rnum 91 0 (l, b) = q at *
  obtain ⟨n, l1, f1⟩ := q
  simp only at hx b0 b1 b2 hrl hok1
  obtain ⟨m0, rfl⟩ : ∃ k : Nat, n = k := ⟨n.toNat, by omega⟩
  rw [Int.toNat_natCast] at hrl
  have Hx := Lib.hid hx
  have Hrl := Lib.hid hrl
  have Hok1 := Lib.hid hok1
  have hal := h.lt
  have hb1 : (m0 : Int) ≤ 9223372036854775807 := b1.2
  clear h hx hrl b0 b1 hok hok1
  go_enter Tryd.func41, Tryd.ntmps41
  go_wp2_with fail
  refine Hx.out.mono ?_
  rintro e w1 ⟨rfl, h1, h2⟩
  have H1 := Lib.hid h1
  have H2 := Lib.hid h2
  clear h1 h2 Hx
  go_wp2
  go_loopg [4, 5] m0 (fun gk v4 v5 wr => ∃ (i : Nat) (xs : List (List UInt8)) (l2 : List UInt8) (f2 : Bool), v5 = .int .i64 i ∧ i ≤ m0 ∧ m0 - i = gk ∧ wr.ownsRow w.heap.size 9 1 v4 xs.length (xs.map bsv) ∧ RdX wr a (l2, f2) ∧ Fr [a] w wr ∧ xs.length ≤ l.length + 1 ∧ l2.length ≤ l.length ∧ (f2 = false → xs.length + l2.length ≤ l.length) ∧ Ok (l2, f2) ∧
    ritems rtext m0 (l1, f1) = (xs ++ (ritems rtext (m0 - i) (l2, f2)).1, (ritems rtext (m0 - i) (l2, f2)).2))
  case atStart => exact ⟨0, [], l1, f1, rfl, Nat.zero_le _, rfl, own_nil _ _ _ H2.out.size, H1.out, H2.out, by simp, b2, fun _ => by simpa using b2, Hok1.out, by simp⟩
  case round =>
    obtain ⟨i, xs, l2, f2, rfl, hi, rfl, hown, hrd, hfr, hx1, hx2, hx3, hokk, hit⟩ := hrel
    have Hown := Lib.hid hown
    have Hrd := Lib.hid hrd
    have Hfr := Lib.hid hfr
    have Hit := Lib.hid hit
    have Hokk := Lib.hid hokk
    have c1 : wr.cell? ⟨a, 1, none⟩ = some (.bool f2) := hrd.c1
    clear hown hrd hfr hit H1 H2 hokk
    cases f2 with
    | true =>
      have hl2 : l2 = [] := Hokk.out rfl
      subst hl2
      have hfin := Hrl.out
      have e1 : ritems rtext (m0 - i) (([] : List UInt8), true) = ([], ([], true)) := by
        cases m0 - i <;> rfl
      rw [Hit.out, e1, List.append_nil] at hfin
      have e2 : rclose 93 (([] : List UInt8), true) = dead := rfl
      simp only at hfin
      rw [e2, if_pos (show dead.2 = true from rfl)] at hfin
      have Hfin := Lib.hid hfin
      clear hfin e1 e2
      by_cases him : (i : Int) < m0
      all_goals
        go_wp2
        go_ret
        rw [Hfin.out]
        exact ⟨_, rfl, own_nil _ _ _ Hfr.out.size, Hrd.out, Hfr.out⟩
    | false =>
      by_cases hlt : i < m0
      · obtain ⟨m, hm⟩ : ∃ m, m0 - i = m + 1 := ⟨m0 - i - 1, by omega⟩
        have hone := xtext_rd a l2 false wr Hrd.out (fun h => by cases h) (by omega)
        obtain ⟨t1, t2⟩ : (rtext (l2, false)).2.1.length ≤ l2.length ∧ ((rtext (l2, false)).2.2 = false → (rtext (l2, false)).2.1.length + 1 ≤ l2.length) := takes_text l2
        have hok4 : Ok (rtext (l2, false)).2 := reads_text.keepOk (l2, false) Hokk.out
        have hit2 : ritems rtext (m + 1) (l2, false) = ((rtext (l2, false)).1 :: (ritems rtext m (rtext (l2, false)).2).1, (ritems rtext m (rtext (l2, false)).2).2) := rfl
        have hit3 := Hit.out
        rw [hm, hit2] at hit3
        generalize rtext (l2, false) = q3 at *
        obtain ⟨x, l4, f4⟩ := q3
        simp only at hone t1 t2 hit3 hok4
        have Hone := Lib.hid hone
        have Hit3 := Lib.hid hit3
        have Hok4 := Lib.hid hok4
        have hx3' := hx3 rfl
        have Hm := Lib.hid hm
        clear hone hit2 hit3 Hit hx3 hok4 hm
        have hlt' : (i : Int) < m0 := by omega
        go_wp2_with fail
        refine Hone.out.mono ?_
        rintro e w3 ⟨rfl, h5, h6⟩
        have H5 := Lib.hid h5
        have H6 := Lib.hid h6
        have hown3 : w3.ownsRow w.heap.size 9 1 u4 xs.length (xs.map bsv) := own_fr Hown.out h6 (fun k hk hin => by have := (own_fp Hown.out k hk).1; have e : k = a := (by simpa using hin); omega)
        have Hown3 := Lib.hid hown3
        have hz3 : w.heap.size ≤ w3.heap.size := Nat.le_trans Hfr.out.size h6.size
        clear h5 h6 hown3
        go_wp2_with (at_builtin; refine wpList_app rfl (.tmp 20) (.tmp 23) 23 rfl w.heap.size 9 _ 1 16 Tryd.underlying23 info_it_str rfl (by decide) _ _ _ rfl (Hown3.out.alloc _) _ 9 _ rfl (row_new _ _ _ _ (by simp)) (by rfl) (by simp [Value.oneCell', bsv]) (by omega) (by omega) (by simp; omega) ?_; intro g' c' w4 hown4 hfr4)
        have Hown4 := Lib.hid hown4
        have Hfr4 := Lib.hid hfr4
        have hr4 : RdX w4 a (l4, f4) := (Row.alloc H5.out _).fr hfr4 (fun hin => by have := (own_fp Hown3.out a hin).1; omega)
        have Hr4 := Lib.hid hr4
        clear hown4 hfr4 hr4
        go_wp2
        go_roundg (m0 - (i + 1))
        case measure => have := Hm.out; omega
        case rel =>
          refine ⟨i + 1, xs ++ [x], l4, f4, by go_num, by omega, rfl, ?_, Hr4.out, ?_, ?_, by omega, ?_, Hok4.out, ?_⟩
          · rw [List.length_append, List.map_append]
            exact Hown4.out
          · exact ((Hfr.out.trans H6.out).alloc _).then Hfr4.out (fun k hk => .inr (own_fp Hown3.out k hk).1)
          · rw [List.length_append]
            simp
            omega
          · intro hf
            have := t2 hf
            rw [List.length_append]
            simp
            omega
          · have hm1 := Hm.out
            rw [show m0 - (i + 1) = m by omega, Hit3.out, List.append_assoc]
            rfl
      · have him : i = m0 := by omega
        subst him
        have hfin := Hrl.out
        rw [Hit.out, Nat.sub_self] at hfin
        have e1 : ritems rtext 0 (l2, false) = ([], (l2, false)) := rfl
        rw [e1, List.append_nil] at hfin
        have Hfin := Lib.hid hfin
        clear hfin e1
        go_wp2_with fail
        refine (xclose_any a l2 wr Hrd.out 93 93 (by decide) (by omega)).mono ?_
        rintro e w2 ⟨rfl, h3, h4⟩
        have hfin := Hfin.out
        generalize rclose 93 (l2, false) = q2 at *
        obtain ⟨l3, f3⟩ := q2
        have H3 := Lib.hid h3
        have H4 := Lib.hid h4
        have Hfin2 := Lib.hid hfin
        clear h3 h4 hfin Hfin
        cases f3 with
        | true =>
          go_wp2
          go_ret
          rw [Hfin2.out]
          exact ⟨_, rfl, own_nil _ _ _ (Nat.le_trans Hfr.out.size H4.out.size), H3.out, Hfr.out.trans H4.out⟩
        | false =>
          go_wp2
          go_ret
          rw [Hfin2.out]
          exact ⟨_, rfl, own_fr Hown.out H4.out (fun k hk hin => by have := (own_fp Hown.out k hk).1; have e : k = a := (by simpa using hin); omega), H3.out, Hfr.out.trans H4.out⟩

end Go.Proofs.YthajdajhclpaaaaDoor