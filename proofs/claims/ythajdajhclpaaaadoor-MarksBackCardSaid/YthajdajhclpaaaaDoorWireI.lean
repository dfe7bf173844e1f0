/- Layer 1: lists are read. (Printed by genitems.py: one text for both element types.) -/
import Derived.Test.YthajdajhclpaaaaDoorWireT
namespace Go.Proofs.YthajdajhclpaaaaDoor
open Go.RowKit Go.Shelf Wr

theorem rlist_eq {α : Type} (one : Rd → α × Rd) (s : Rd) : rlist one s = if (rclose 93 (ritems one (rnum 91 0 s).1.toNat (rnum 91 0 s).2).2).2 = true then ([], rclose 93 (ritems one (rnum 91 0 s).1.toNat (rnum 91 0 s).2).2)
  else ((ritems one (rnum 91 0 s).1.toNat (rnum 91 0 s).2).1, rclose 93 (ritems one (rnum 91 0 s).1.toNat (rnum 91 0 s).2).2) := rfl
theorem own_nil (w : World) (B : Nat) (t : TypeId) (h : B ≤ w.heap.size) : w.ownsRow B t 1 (.slice none 0 0) 0 [] := ⟨rfl, .inl ⟨rfl, rfl⟩⟩
theorem info_it_int : (Tryd.prog.info? 3).map (fun i => (i.zero, i.size, i.bytes)) = some (some (.int .i64 0), 1, 8) := by kernel_rfl
theorem info_it_str : (Tryd.prog.info? 9).map (fun i => (i.zero, i.size, i.bytes)) = some (some (.string ⟨#[]⟩), 1, 16) := by kernel_rfl
/-- A reading fails, or takes a byte. -/
def Takes {α : Type} (one : Rd → α × Rd) : Prop := ∀ l : List UInt8, (one (l, false)).2.1.length ≤ l.length ∧ ((one (l, false)).2.2 = false → (one (l, false)).2.1.length + 1 ≤ l.length)
theorem takes_num (e : UInt8) (least : Int) : Takes (rnum e least) := by
  intro l
  unfold rnum
  simp only
  cases h : numR e least l with
  | none => exact ⟨Nat.zero_le _, fun h => by cases h⟩
  | some p =>
    obtain ⟨h1, _, _⟩ := numR_dec e least p.1 l p.2 h
    have := congrArg List.length h1
    rw [List.length_append, List.length_cons] at this
    exact ⟨by show p.2.length ≤ _; omega, fun _ => by show p.2.length + 1 ≤ _; omega⟩
theorem trim_len (l p : List UInt8) : (Lib.trimPrefix l p).length ≤ l.length := by
  unfold Lib.trimPrefix
  split
  · rw [List.length_drop]
    exact Nat.sub_le _ _
  · exact Nat.le_refl _
theorem close_len (c : UInt8) (l : List UInt8) (b : Bool) : (rclose c (l, b)).1.length ≤ l.length ∧ ((rclose c (l, b)).2 = false → b = false) := by
  rcases pre_cases c (l, b) with ⟨t, h1, h2, h3⟩ | ⟨_, h⟩
  · rw [h3]
    refine ⟨?_, id⟩
    show t.length ≤ l.length
    rw [← h2]
    exact trim_len l [c]
  · rw [h]
    exact ⟨Nat.zero_le _, fun h => by cases h⟩
theorem takes_text : Takes rtext := by
  intro l
  obtain ⟨h1, h2⟩ := takes_num 58 0 l
  unfold rtext
  generalize rnum 58 0 (l, false) = q at *
  obtain ⟨n, l1, f1⟩ := q
  simp only at h1 h2 ⊢
  obtain ⟨h3, h4⟩ := close_len 44 (l1.drop n.toNat) f1
  rw [List.length_drop] at h3
  split
  · exact ⟨Nat.zero_le _, fun h => by cases h⟩
  · split
    · rename_i hc
      exact ⟨by show (rclose 44 (l1.drop n.toNat, f1)).1.length ≤ _; omega, fun h => by
        have h' : (rclose 44 (l1.drop n.toNat, f1)).2 = false := h
        rw [hc] at h'
        cases h'⟩
    · exact ⟨by show (rclose 44 (l1.drop n.toNat, f1)).1.length ≤ _; omega, fun h => by
        have h5 := h2 (h4 h)
        show (rclose 44 (l1.drop n.toNat, f1)).1.length + 1 ≤ _
        omega⟩

set_option maxRecDepth 100000 in
set_option maxHeartbeats 2000000 in
theorem items_int (a : Nat) (l : List UInt8) (b : Bool) (B : Nat) (w : World) (h : RdIs w a (l, b)) (hw : LW B w) (hB : B ≤ a) (hl : l.length ≤ 10000000) :
    Calls Tryd.prog 69 #[.pointer (some ⟨a, 0, none⟩), .func (.func 26) #[.pointer (some ⟨a, 0, none⟩)] #[]] w fun en w' => ∃ v, en = .returned v ∧
      w'.ownsRow w.heap.size 3 1 v (rlist rint (l, b)).1.length ((rlist rint (l, b)).1.map (Value.int .i64)) ∧ RdIs w' a (rlist rint (l, b)).2 ∧ Fr [a] w w' := by
  have hx := number_any a l b B w h hw hB 91 0 91 (by decide) (by omega)
  obtain ⟨b0, b1, b2⟩ := rnum_bounds 91 0 (by decide) ⟨by decide, by decide⟩ l b
  have hrl := rlist_eq rint (l, b)
  generalize rlist rint (l, b) = fin at *
  generalize rnum 91 0 (l, b) = q at *
  obtain ⟨n, l1, f1⟩ := q
  simp only at hx b0 b1 b2 hrl
  obtain ⟨m0, rfl⟩ : ∃ k : Nat, n = k := ⟨n.toNat, by omega⟩
  rw [Int.toNat_natCast] at hrl
  have Hx := Lib.hid hx
  have Hrl := Lib.hid hrl
  have HW := Lib.hid hw
  have hal := h.lt
  have Hb1 := Lib.hid b1
  clear h hw hx hrl b0 b1
  go_enter Tryd.func69, Tryd.ntmps69
  go_wp2_with fail
  refine Hx.out.mono ?_
  rintro e w1 ⟨rfl, h1, h2⟩
  have H1 := Lib.hid h1
  have H2 := Lib.hid h2
  clear h1 h2 Hx
  go_wp2
  go_loopg [5, 6] m0 (fun gk v5 v6 wr => ∃ (m : Nat) (xs : List Int) (l2 : List UInt8) (f2 : Bool), v6 = .int .i64 m ∧ m = gk ∧ m ≤ m0 ∧ wr.ownsRow w.heap.size 3 1 v5 xs.length (xs.map (Value.int .i64)) ∧ RdIs wr a (l2, f2) ∧ Fr [a] w wr ∧ xs.length ≤ l.length + 1 ∧ l2.length ≤ l.length ∧ (f2 = false → xs.length + l2.length ≤ l.length) ∧
    ritems rint m0 (l1, f1) = (xs ++ (ritems rint m (l2, f2)).1, (ritems rint m (l2, f2)).2))
  case atStart => exact ⟨m0, [], l1, f1, rfl, rfl, Nat.le_refl _, own_nil _ _ _ H2.out.size, H1.out, H2.out, by simp, b2, fun _ => by simpa using b2, by simp⟩
  case round =>
    obtain ⟨m, xs, l2, f2, rfl, rfl, hm, hown, hrd, hfr, hx1, hx2, hx3, hit⟩ := hrel
    have Hown := Lib.hid hown
    have Hrd := Lib.hid hrd
    have Hfr := Lib.hid hfr
    have Hit := Lib.hid hit
    have c1 : wr.cell? ⟨a, 1, none⟩ = some (.bool f2) := hrd.c1
    have hmI : (m : Int) ≤ 9223372036854775807 := by have := Hb1.out.2; omega
    clear hown hrd hfr hit H1 H2
    cases m with
    | zero =>
      have hfin := Hrl.out
      rw [Hit.out] at hfin
      have e1 : ritems rint 0 (l2, f2) = ([], (l2, f2)) := rfl
      rw [e1, List.append_nil] at hfin
      have Hfin := Lib.hid hfin
      clear hfin e1
      go_wp2_with fail
      refine (close_any a (l2, f2) wr Hrd.out ⟨#[93]⟩ 93 rfl).mono ?_
      rintro e w2 ⟨rfl, h3, h4⟩
      have hfin := Hfin.out
      generalize rclose 93 (l2, f2) = q2 at *
      obtain ⟨l3, f3⟩ := q2
      have H3 := Lib.hid h3
      have H4 := Lib.hid h4
      have Hfin2 := Lib.hid hfin
      have g1 : w2.cell? ⟨a, 1, none⟩ = some (.bool f3) := h3.c1
      clear h3 h4 hfin Hfin
      cases f3 with
      | true =>
        go_wp2
        go_ret
        rw [Hfin2.out]
        exact ⟨_, rfl, own_nil _ _ _ (Nat.le_trans Hfr.out.size H4.out.size), H3.out, Hfr.out.trans H4.out⟩
      | false =>
        go_wp2
        go_ret
        rw [Hfin2.out]
        exact ⟨_, rfl, own_fr Hown.out H4.out (fun k hk hin => by have := (own_fp Hown.out k hk).1; have e : k = a := (by simpa using hin); omega), H3.out, Hfr.out.trans H4.out⟩
    | succ m =>
      cases f2 with
      | true =>
        have hfin := Hrl.out
        rw [Hit.out] at hfin
        have e1 : ritems rint (m + 1) (l2, true) = ([], (l2, true)) := rfl
        rw [e1, List.append_nil] at hfin
        have Hfin := Lib.hid hfin
        clear hfin e1
        go_wp2_with fail
        refine (close_any a (l2, true) wr Hrd.out ⟨#[93]⟩ 93 rfl).mono ?_
        rintro e w2 ⟨rfl, h3, h4⟩
        have hfin := Hfin.out
        generalize rclose 93 (l2, true) = q2 at *
        obtain ⟨l3, f3⟩ := q2
        have H3 := Lib.hid h3
        have H4 := Lib.hid h4
        have Hfin2 := Lib.hid hfin
        have g1 : w2.cell? ⟨a, 1, none⟩ = some (.bool f3) := h3.c1
        clear h3 h4 hfin Hfin
        cases f3 with
        | true =>
          go_wp2
          go_ret
          rw [Hfin2.out]
          exact ⟨_, rfl, own_nil _ _ _ (Nat.le_trans Hfr.out.size H4.out.size), H3.out, Hfr.out.trans H4.out⟩
        | false =>
          go_wp2
          go_ret
          rw [Hfin2.out]
          exact ⟨_, rfl, own_fr Hown.out H4.out (fun k hk hin => by have := (own_fp Hown.out k hk).1; have e : k = a := (by simpa using hin); omega), H3.out, Hfr.out.trans H4.out⟩
      | false =>
        have hone := int_any a l2 false B wr Hrd.out (HW.out.fr Hfr.out (by simp; omega)) hB (by omega)
        obtain ⟨t1, t2⟩ : (rint (l2, false)).2.1.length ≤ l2.length ∧ ((rint (l2, false)).2.2 = false → (rint (l2, false)).2.1.length + 1 ≤ l2.length) := takes_num 59 (-9223372036854775808) l2
        have hit2 : ritems rint (m + 1) (l2, false) = ((rint (l2, false)).1 :: (ritems rint m (rint (l2, false)).2).1, (ritems rint m (rint (l2, false)).2).2) := rfl
        have hit3 := Hit.out
        rw [hit2] at hit3
        generalize rint (l2, false) = q3 at *
        obtain ⟨x, l4, f4⟩ := q3
        simp only at hone t1 t2 hit3
        have Hone := Lib.hid hone
        have Hit3 := Lib.hid hit3
        have hx3' := hx3 rfl
        clear hone hit2 hit3 Hit hx3
        have hmw : IntKind.i64.wrap ((m : Int) + 1 - 1) = (m : Int) := by rw [IntKind.wrap_i64]; omega
        go_wp2_with fail
        refine Hone.out.mono ?_
        rintro e w3 ⟨rfl, h5, h6⟩
        have H5 := Lib.hid h5
        have H6 := Lib.hid h6
        have hown3 : w3.ownsRow w.heap.size 3 1 u5 xs.length (xs.map (Value.int .i64)) := own_fr Hown.out h6 (fun k hk hin => by have := (own_fp Hown.out k hk).1; have e : k = a := (by simpa using hin); omega)
        have Hown3 := Lib.hid hown3
        have hz3 : w.heap.size ≤ w3.heap.size := Nat.le_trans Hfr.out.size h6.size
        clear h5 h6 hown3
        go_wp2_with (at_builtin; refine wpList_app rfl (.tmp 20) (.tmp 23) 22 rfl w.heap.size 3 _ 1 8 Tryd.underlying22 info_it_int rfl (by decide) _ _ _ rfl (Hown3.out.alloc _) _ 3 _ rfl (row_new _ _ _ _ (by simp)) (by rfl) (by simp [Value.oneCell', bsv]) (by omega) (by omega) (by simp; omega) ?_; intro g' c' w4 hown4 hfr4)
        have Hown4 := Lib.hid hown4
        have Hfr4 := Lib.hid hfr4
        have hr4 : RdIs w4 a (l4, f4) := (Row.alloc H5.out _).fr hfr4 (fun hin => by have := (own_fp Hown3.out a hin).1; omega)
        have Hr4 := Lib.hid hr4
        clear hown4 hfr4 hr4
        go_wp2
        go_roundg m
        case measure => omega
        case rel =>
          refine ⟨m, xs ++ [x], l4, f4, by first | rfl | go_num | (rw [hmw]), rfl, by omega, ?_, Hr4.out, ?_, ?_, by omega, ?_, ?_⟩
          · rw [List.length_append, List.map_append]
            exact Hown4.out
          · exact ((Hfr.out.trans H6.out).alloc _).then Hfr4.out (fun k hk => .inr (own_fp Hown3.out k hk).1)
          · rw [List.length_append]
            simp
            omega
          · intro hf
            have := t2 hf
            rw [List.length_append]
            simp
            omega
          · rw [Hit3.out, List.append_assoc]
            rfl

theorem rnums_any (a : Nat) (l : List UInt8) (b : Bool) (B : Nat) (w : World) (h : RdIs w a (l, b)) (hw : LW B w) (hB : B ≤ a) (hl : l.length ≤ 10000000) :
    Calls Tryd.prog 28 #[.pointer (some ⟨a, 0, none⟩)] w fun en w' => ∃ v, en = .returned v ∧
      w'.ownsRow w.heap.size 3 1 v (rlist rint (l, b)).1.length ((rlist rint (l, b)).1.map (Value.int .i64)) ∧ RdIs w' a (rlist rint (l, b)).2 ∧ Fr [a] w w' := by
  have hx := Lib.hid (items_int a l b B w h hw hB hl)
  clear h hw hB hl
  generalize rlist rint (l, b) = fin at *
  go_enter Tryd.func28, Tryd.ntmps28
  go_wp2_with fail
  refine hx.out.mono ?_
  rintro e w1 ⟨v, rfl, h1, h2, h3⟩
  have H1 := Lib.hid h1
  have H2 := Lib.hid h2
  have H3 := Lib.hid h3
  clear h1 h2 h3
  go_wp2
  go_ret
  exact ⟨v, rfl, H1.out, H2.out, H3.out⟩

set_option maxRecDepth 100000 in
set_option maxHeartbeats 2000000 in
theorem items_str (a : Nat) (l : List UInt8) (b : Bool) (B : Nat) (w : World) (h : RdIs w a (l, b)) (hw : LW B w) (hB : B ≤ a) (hl : l.length ≤ 10000000) :
    Calls Tryd.prog 70 #[.pointer (some ⟨a, 0, none⟩), .func (.func 27) #[.pointer (some ⟨a, 0, none⟩)] #[]] w fun en w' => ∃ v, en = .returned v ∧
      w'.ownsRow w.heap.size 9 1 v (rlist rtext (l, b)).1.length ((rlist rtext (l, b)).1.map bsv) ∧ RdIs w' a (rlist rtext (l, b)).2 ∧ Fr [a] w w' := by
  have hx := number_any a l b B w h hw hB 91 0 91 (by decide) (by omega)
  obtain ⟨b0, b1, b2⟩ := rnum_bounds 91 0 (by decide) ⟨by decide, by decide⟩ l b
  have hrl := rlist_eq rtext (l, b)
  generalize rlist rtext (l, b) = fin at *
  generalize rnum 91 0 (l, b) = q at *
  obtain ⟨n, l1, f1⟩ := q
  simp only at hx b0 b1 b2 hrl
  obtain ⟨m0, rfl⟩ : ∃ k : Nat, n = k := ⟨n.toNat, by omega⟩
  rw [Int.toNat_natCast] at hrl
  have Hx := Lib.hid hx
  have Hrl := Lib.hid hrl
  have HW := Lib.hid hw
  have hal := h.lt
  have Hb1 := Lib.hid b1
  clear h hw hx hrl b0 b1
  go_enter Tryd.func70, Tryd.ntmps70
  go_wp2_with fail
  refine Hx.out.mono ?_
  rintro e w1 ⟨rfl, h1, h2⟩
  have H1 := Lib.hid h1
  have H2 := Lib.hid h2
  clear h1 h2 Hx
  go_wp2
  go_loopg [5, 6] m0 (fun gk v5 v6 wr => ∃ (m : Nat) (xs : List (List UInt8)) (l2 : List UInt8) (f2 : Bool), v6 = .int .i64 m ∧ m = gk ∧ m ≤ m0 ∧ wr.ownsRow w.heap.size 9 1 v5 xs.length (xs.map bsv) ∧ RdIs wr a (l2, f2) ∧ Fr [a] w wr ∧ xs.length ≤ l.length + 1 ∧ l2.length ≤ l.length ∧ (f2 = false → xs.length + l2.length ≤ l.length) ∧
    ritems rtext m0 (l1, f1) = (xs ++ (ritems rtext m (l2, f2)).1, (ritems rtext m (l2, f2)).2))
  case atStart => exact ⟨m0, [], l1, f1, rfl, rfl, Nat.le_refl _, own_nil _ _ _ H2.out.size, H1.out, H2.out, by simp, b2, fun _ => by simpa using b2, by simp⟩
  case round =>
    obtain ⟨m, xs, l2, f2, rfl, rfl, hm, hown, hrd, hfr, hx1, hx2, hx3, hit⟩ := hrel
    have Hown := Lib.hid hown
    have Hrd := Lib.hid hrd
    have Hfr := Lib.hid hfr
    have Hit := Lib.hid hit
    have c1 : wr.cell? ⟨a, 1, none⟩ = some (.bool f2) := hrd.c1
    have hmI : (m : Int) ≤ 9223372036854775807 := by have := Hb1.out.2; omega
    clear hown hrd hfr hit H1 H2
    cases m with
    | zero =>
      have hfin := Hrl.out
      rw [Hit.out] at hfin
      have e1 : ritems rtext 0 (l2, f2) = ([], (l2, f2)) := rfl
      rw [e1, List.append_nil] at hfin
      have Hfin := Lib.hid hfin
      clear hfin e1
      go_wp2_with fail
      refine (close_any a (l2, f2) wr Hrd.out ⟨#[93]⟩ 93 rfl).mono ?_
      rintro e w2 ⟨rfl, h3, h4⟩
      have hfin := Hfin.out
      generalize rclose 93 (l2, f2) = q2 at *
      obtain ⟨l3, f3⟩ := q2
      have H3 := Lib.hid h3
      have H4 := Lib.hid h4
      have Hfin2 := Lib.hid hfin
      have g1 : w2.cell? ⟨a, 1, none⟩ = some (.bool f3) := h3.c1
      clear h3 h4 hfin Hfin
      cases f3 with
      | true =>
        go_wp2
        go_ret
        rw [Hfin2.out]
        exact ⟨_, rfl, own_nil _ _ _ (Nat.le_trans Hfr.out.size H4.out.size), H3.out, Hfr.out.trans H4.out⟩
      | false =>
        go_wp2
        go_ret
        rw [Hfin2.out]
        exact ⟨_, rfl, own_fr Hown.out H4.out (fun k hk hin => by have := (own_fp Hown.out k hk).1; have e : k = a := (by simpa using hin); omega), H3.out, Hfr.out.trans H4.out⟩
    | succ m =>
      cases f2 with
      | true =>
        have hfin := Hrl.out
        rw [Hit.out] at hfin
        have e1 : ritems rtext (m + 1) (l2, true) = ([], (l2, true)) := rfl
        rw [e1, List.append_nil] at hfin
        have Hfin := Lib.hid hfin
        clear hfin e1
        go_wp2_with fail
        refine (close_any a (l2, true) wr Hrd.out ⟨#[93]⟩ 93 rfl).mono ?_
        rintro e w2 ⟨rfl, h3, h4⟩
        have hfin := Hfin.out
        generalize rclose 93 (l2, true) = q2 at *
        obtain ⟨l3, f3⟩ := q2
        have H3 := Lib.hid h3
        have H4 := Lib.hid h4
        have Hfin2 := Lib.hid hfin
        have g1 : w2.cell? ⟨a, 1, none⟩ = some (.bool f3) := h3.c1
        clear h3 h4 hfin Hfin
        cases f3 with
        | true =>
          go_wp2
          go_ret
          rw [Hfin2.out]
          exact ⟨_, rfl, own_nil _ _ _ (Nat.le_trans Hfr.out.size H4.out.size), H3.out, Hfr.out.trans H4.out⟩
        | false =>
          go_wp2
          go_ret
          rw [Hfin2.out]
          exact ⟨_, rfl, own_fr Hown.out H4.out (fun k hk hin => by have := (own_fp Hown.out k hk).1; have e : k = a := (by simpa using hin); omega), H3.out, Hfr.out.trans H4.out⟩
      | false =>
        have hone := text_any a l2 false B wr Hrd.out (HW.out.fr Hfr.out (by simp; omega)) hB (by omega)
        obtain ⟨t1, t2⟩ : (rtext (l2, false)).2.1.length ≤ l2.length ∧ ((rtext (l2, false)).2.2 = false → (rtext (l2, false)).2.1.length + 1 ≤ l2.length) := takes_text l2
        have hit2 : ritems rtext (m + 1) (l2, false) = ((rtext (l2, false)).1 :: (ritems rtext m (rtext (l2, false)).2).1, (ritems rtext m (rtext (l2, false)).2).2) := rfl
        have hit3 := Hit.out
        rw [hit2] at hit3
        generalize rtext (l2, false) = q3 at *
        obtain ⟨x, l4, f4⟩ := q3
        simp only at hone t1 t2 hit3
        have Hone := Lib.hid hone
        have Hit3 := Lib.hid hit3
        have hx3' := hx3 rfl
        clear hone hit2 hit3 Hit hx3
        have hmw : IntKind.i64.wrap ((m : Int) + 1 - 1) = (m : Int) := by rw [IntKind.wrap_i64]; omega
        go_wp2_with fail
        refine Hone.out.mono ?_
        rintro e w3 ⟨rfl, h5, h6⟩
        have H5 := Lib.hid h5
        have H6 := Lib.hid h6
        have hown3 : w3.ownsRow w.heap.size 9 1 u5 xs.length (xs.map bsv) := own_fr Hown.out h6 (fun k hk hin => by have := (own_fp Hown.out k hk).1; have e : k = a := (by simpa using hin); omega)
        have Hown3 := Lib.hid hown3
        have hz3 : w.heap.size ≤ w3.heap.size := Nat.le_trans Hfr.out.size h6.size
        clear h5 h6 hown3
        go_wp2_with (at_builtin; refine wpList_app rfl (.tmp 20) (.tmp 23) 23 rfl w.heap.size 9 _ 1 16 Tryd.underlying23 info_it_str rfl (by decide) _ _ _ rfl (Hown3.out.alloc _) _ 9 _ rfl (row_new _ _ _ _ (by simp)) (by rfl) (by simp [Value.oneCell', bsv]) (by omega) (by omega) (by simp; omega) ?_; intro g' c' w4 hown4 hfr4)
        have Hown4 := Lib.hid hown4
        have Hfr4 := Lib.hid hfr4
        have hr4 : RdIs w4 a (l4, f4) := (Row.alloc H5.out _).fr hfr4 (fun hin => by have := (own_fp Hown3.out a hin).1; omega)
        have Hr4 := Lib.hid hr4
        clear hown4 hfr4 hr4
        go_wp2
        go_roundg m
        case measure => omega
        case rel =>
          refine ⟨m, xs ++ [x], l4, f4, by first | rfl | go_num | (rw [hmw]), rfl, by omega, ?_, Hr4.out, ?_, ?_, by omega, ?_, ?_⟩
          · rw [List.length_append, List.map_append]
            exact Hown4.out
          · exact ((Hfr.out.trans H6.out).alloc _).then Hfr4.out (fun k hk => .inr (own_fp Hown3.out k hk).1)
          · rw [List.length_append]
            simp
            omega
          · intro hf
            have := t2 hf
            rw [List.length_append]
            simp
            omega
          · rw [Hit3.out, List.append_assoc]
            rfl

theorem rtexts_any (a : Nat) (l : List UInt8) (b : Bool) (B : Nat) (w : World) (h : RdIs w a (l, b)) (hw : LW B w) (hB : B ≤ a) (hl : l.length ≤ 10000000) :
    Calls Tryd.prog 29 #[.pointer (some ⟨a, 0, none⟩)] w fun en w' => ∃ v, en = .returned v ∧
      w'.ownsRow w.heap.size 9 1 v (rlist rtext (l, b)).1.length ((rlist rtext (l, b)).1.map bsv) ∧ RdIs w' a (rlist rtext (l, b)).2 ∧ Fr [a] w w' := by
  have hx := Lib.hid (items_str a l b B w h hw hB hl)
  clear h hw hB hl
  generalize rlist rtext (l, b) = fin at *
  go_enter Tryd.func29, Tryd.ntmps29
  go_wp2_with fail
  refine hx.out.mono ?_
  rintro e w1 ⟨v, rfl, h1, h2, h3⟩
  have H1 := Lib.hid h1
  have H2 := Lib.hid h2
  have H3 := Lib.hid h3
  clear h1 h2 h3
  go_wp2
  go_ret
  exact ⟨v, rfl, H1.out, H2.out, H3.out⟩

end Go.Proofs.YthajdajhclpaaaaDoor
