/- Layer 1: lists are written. (Printed by genlist.py: one text for both element types.) -/
import Derived.Test.YthajdajhclpaaaaDoorWireL
namespace Go.Proofs.YthajdajhclpaaaaDoor
open Go.RowKit Go.Shelf Wr

theorem isAt_quiet {B b : Nat} {p : Value} {bs : List Value} {w w' : World} (h : Lib.BuilderAt TB TY B b p bs w) (hf : Fr [] w w') : Lib.BuilderAt TB TY B b p bs w' := by
  obtain ⟨h1, v, h2, h3, h4⟩ := h
  refine ⟨h1, v, ?_, own_fr h3 hf (by simp), h4⟩
  rw [hf.block b (Array.getElem?_eq_some_iff.1 h2).1 (by simp)]
  exact h2
theorem isB_quiet {B b : Nat} {bs : List Value} {w w' : World} (h : Lib.IsBuilder TB TY B b bs w) (hf : Fr [] w w') : Lib.IsBuilder TB TY B b bs w' := h.imp (fun h => isAt_quiet h hf) (fun h => isAt_quiet h hf)
theorem hd_len (l : List UInt8) (h : l.length ≤ 20) : ([] : List UInt8).length + ((⟨l.toArray⟩ : ByteArray) ++ ⟨#[91]⟩).size ≤ 1099511627776 := by
  rw [ByteArray.size_append', ByteArray.size_mk', ByteArray.size_mk', List.size_toArray]
  simp
  omega
theorem md_len (l m k : List UInt8) (h : l.length ≤ 20) (h2 : m.length + k.length ≤ 1000000000) : (l ++ [91] ++ m).length + (⟨k.toArray⟩ : ByteArray).size ≤ 1099511627776 := by
  rw [ByteArray.size_mk', List.size_toArray, List.length_append, List.length_append]
  simp
  omega
/-- A text as a cell. -/
def bsv (l : List UInt8) : Value := .string ⟨l.toArray⟩
theorem frB {B : Nat} {w w' : World} (_ : LW B w) (h : Below w.heap.size w w') : Fr [] w w' := fr_below h

set_option maxRecDepth 100000 in
set_option maxHeartbeats 2000000 in
theorem wlist_int (A : Option Addr) (c : Nat) (xs : List Int) (B : Nat) (w : World) (h : LW B w) (hx : ∀ x, x ∈ xs → I64 x) (hl : xs.length ≤ 1000000) (htot : ((xs.map encInt).flatten).length ≤ 1000000000) (hA : 0 < xs.length → ∃ b off, A = some ⟨b, off, none⟩ ∧ Came w b off (xs.map (Value.int .i64))) :
    Calls Tryd.prog 64 #[.slice A xs.length c, .func (.func 15) #[] #[]] w fun e w' => e = .returned (.string ⟨(encList (xs.map encInt)).toArray⟩) ∧ Fr [] w w' := by
  have H := Lib.hid h
  have Hx := Lib.hid hx
  have HA := Lib.hid hA
  have Htot := Lib.hid htot
  have hn : I64 (xs.length : Int) := ⟨by omega, by omega⟩
  have Hn := Lib.hid hn
  have hil := itoa_len (xs.length : Int) hn.1 hn.2
  have hfr0 : Fr [] w (w.alloc (.cells #[.pointer none, .slice none 0 0] 99)) := by (repeat' (first | with_reducible exact Fr.refl _ _ | with_reducible assumption | with_reducible apply Fr.drew | with_reducible apply Fr.drewN | with_reducible apply Fr.alloc | (with_reducible refine Fr.set ?_ (.inr (by first | exact Nat.le_refl _ | exact Nat.le_succ _ | (simp; done) | (simp; omega))) _)))
  have Hfr0 := Lib.hid hfr0
  have Hb0 : Hid (Lib.IsBuilder TB TY w.heap.size w.heap.size (Lib.byteCells []) (w.alloc (.cells #[.pointer none, .slice none 0 0] TB))) := Lib.fresh_isBuilder TB TY w
  have hsz : (w.alloc (.cells #[.pointer none, .slice none 0 0] 99)).heap.size = w.heap.size + 1 := by simp
  have Hsz := Lib.hid hsz
  clear h hx hA htot hn hfr0 hsz
  go_enter Tryd.func64, Tryd.ntmps64
  go_wp2_with fail
  refine (itoa_any (H.out.quiet Hfr0.out) (xs.length : Int) Hn.out).mono ?_
  rintro e w1 ⟨rfl, hf1⟩
  have hb1 : Lib.IsBuilder TB TY w.heap.size w.heap.size (Lib.byteCells []) w1 := isB_quiet Hb0.out hf1
  have Hb1 := Lib.hid hb1
  have Hbl1 : Hid (Below w.heap.size w w1) := ((Below.refl w.heap.size w).alloc (Nat.le_refl _) _).trans ⟨hf1.os, hf1.tape, hf1.output, hf1.size, fun k hk => hf1.block k (by rw [Hsz.out]; omega) (by simp)⟩
  have hz1 : w.heap.size ≤ w1.heap.size := Hbl1.out.size
  clear hf1 hb1
  go_wp2_with fail
  refine (bws_any [] _ Hb1.out ?sz hz1).mono ?_
  case sz => exact hd_len _ hil
  rintro e w2 ⟨rfl, hb2, hbl2⟩
  rw [List.nil_append, ByteArray.data_append, Array.toList_append] at hb2
  have Hb2 : Hid (Lib.BuilderAt TB TY w.heap.size w.heap.size (.pointer (some ⟨w.heap.size, 0, none⟩)) (Lib.byteCells (Lib.itoa (xs.length : Int) ++ [91])) w2) := hb2
  have Hbl2 := Lib.hid (Hbl1.out.trans hbl2)
  clear hb2 hbl2 Hb1 Hbl1 Hb0 Hfr0 Hsz hz1
  go_wp2
  go_loopg [15] xs.length (fun gk iv wr => ∃ k : Nat, iv = .int .i64 k ∧ k ≤ xs.length ∧ gk = xs.length - k ∧ Lib.BuilderAt TB TY w.heap.size w.heap.size (.pointer (some ⟨w.heap.size, 0, none⟩)) (Lib.byteCells (Lib.itoa (xs.length : Int) ++ [91] ++ ((xs.take k).map encInt).flatten)) wr ∧ Below w.heap.size w wr)
  case atStart => exact ⟨0, rfl, Nat.zero_le _, rfl, by simpa using Hb2.out, Hbl2.out⟩
  case round =>
    obtain ⟨k, rfl, hk, rfl, hb, hbl⟩ := hrel
    have Hb := Lib.hid hb
    have Hbl := Lib.hid hbl
    clear hb hbl Hb2 Hbl2
    by_cases hlt : k < xs.length
    · obtain ⟨b, off, rfl, hca⟩ := HA.out (by omega)
      obtain ⟨x, hxk⟩ : ∃ x, xs[k]? = some x := ⟨_, List.getElem?_eq_getElem hlt⟩
      have ck : wr.cell? ⟨b, off + k, none⟩ = some ((Value.int .i64) x) := (hca.below Hbl.out hca.1).2 k _ (by rw [List.getElem?_map, hxk]; rfl)
      have hgood : I64 x := Hx.out x (List.mem_of_getElem? hxk)
      have hts : xs.take (k + 1) = xs.take k ++ [x] := by
        have hv : xs[k] = x := by rw [List.getElem?_eq_getElem hlt] at hxk; exact Option.some.inj hxk
        rw [List.take_succ_eq_append_getElem hlt, hv]
      have hlen1 : (((xs.take (k + 1)).map encInt).flatten).length ≤ 1000000000 := by
        refine Nat.le_trans ?_ Htot.out
        conv => rhs; rw [← List.take_append_drop (k + 1) xs, List.map_append, List.flatten_append, List.length_append]
        omega
      have happ : ((xs.take (k + 1)).map encInt).flatten = ((xs.take k).map encInt).flatten ++ encInt x := by rw [hts]; simp
      rw [happ, List.length_append] at hlen1
      have Happ := Lib.hid happ
      have Hlen1 := Lib.hid hlen1
      have Hgood := Lib.hid hgood
      clear hca hxk hts happ hlen1 hgood
      go_wp2_with fail
      refine (wint_any (H.out.fr (S := []) (frB H.out Hbl.out) (by simp)) x Hgood.out).mono ?_
      rintro e w3 ⟨rfl, hf3⟩
      have Hb3 := Lib.hid (isAt_quiet Hb.out hf3)
      have hzr := Hbl.out.size
      have Hbl3 : Hid (Below w.heap.size w w3) := Hbl.out.trans ⟨hf3.os, hf3.tape, hf3.output, hf3.size, fun k hk => hf3.block k (by omega) (by simp)⟩
      have hz3 := Hbl3.out.size
      clear hf3 ck
      go_wp2_with fail
      refine (bws_any _ _ (.inr Hb3.out) ?sz hz3).mono ?_
      case sz => exact md_len _ _ _ hil Hlen1.out
      rintro e w4 ⟨rfl, hb4, hbl4⟩
      have Hb4 : Hid (Lib.BuilderAt TB TY w.heap.size w.heap.size (.pointer (some ⟨w.heap.size, 0, none⟩)) (Lib.byteCells (Lib.itoa (xs.length : Int) ++ [91] ++ ((xs.take (k + 1)).map encInt).flatten)) w4) := by
        show Lib.BuilderAt _ _ _ _ _ _ _
        rw [Happ.out, ← List.append_assoc]
        exact hb4
      have Hbl4 := Lib.hid (Hbl3.out.trans hbl4)
      clear hb4 hbl4 Hb3 Hbl3
      go_wp2
      go_roundg (xs.length - (k + 1))
      case measure => omega
      case rel => exact ⟨k + 1, by go_num, by omega, rfl, Hb4.out, Hbl4.out⟩
    · have hkk : k = xs.length := by omega
      subst hkk
      have hst := Tryd.Builder_String_any w.heap.size w.heap.size _ wr (.inr Hb.out) Hbl.out.size
      rw [List.take_of_length_le (Nat.le_refl _)] at hst
      have Hst := Lib.hid hst
      have hlim : (Lib.itoa (xs.length : Int) ++ [91] ++ (xs.map encInt).flatten).length ≤ 1000000100 := by
        have := Htot.out
        rw [List.length_append, List.length_append]
        simp only [List.length_cons, List.length_nil]
        omega
      have Hfin : Hid (encList (xs.map encInt) = Lib.itoa (xs.length : Int) ++ [91] ++ (xs.map encInt).flatten ++ [93]) := by
        show _ = _
        unfold encList
        rw [List.length_map]
      clear hst
      generalize Lib.itoa (xs.length : Int) ++ [91] ++ (xs.map encInt).flatten = acc at *
      go_wp2_with fail
      refine Hst.out.mono ?_
      rintro e w5 ⟨rfl, hb5⟩
      have Hb5 := Lib.hid (Hbl.out.trans hb5)
      clear hb5
      go_wp2
      go_ret
      exact ⟨ret_str (by rw [Hfin.out, mkb_app]), fr_below Hb5.out⟩

theorem wnums_any {B : Nat} {w : World} {v : Value} (xs : List Int) (h : LW B w) (hx : ∀ x, x ∈ xs → I64 x) (hl : xs.length ≤ 1000000) (htot : ((xs.map encInt).flatten).length ≤ 1000000000) {B0 : Nat} (hv : SL B0 w v xs.length (xs.map (Value.int .i64))) :
    Calls Tryd.prog 19 #[v] w fun e w' => e = .returned (.string ⟨(encList (xs.map encInt)).toArray⟩) ∧ Fr [] w w' := by
  obtain ⟨A, c, rfl, hm, hA⟩ := hv
  have Hw := Lib.hid (wlist_int A c xs B w h hx hl htot (fun h0 => by
    obtain ⟨b, off, h1, _, h2⟩ := hA h0
    exact ⟨b, off, h1, h2⟩))
  clear h hx hl htot hA
  go_enter Tryd.func19, Tryd.ntmps19
  go_wp2_with fail
  refine Hw.out.mono ?_
  rintro e w1 ⟨rfl, hf⟩
  have Hf := Lib.hid hf
  clear hf
  go_wp2
  go_ret
  exact ⟨rfl, Hf.out⟩

set_option maxRecDepth 100000 in
set_option maxHeartbeats 2000000 in
theorem wlist_str (A : Option Addr) (c : Nat) (xs : List (List UInt8)) (B : Nat) (w : World) (h : LW B w) (hx : ∀ x, x ∈ xs → x.length ≤ 1000000000) (hl : xs.length ≤ 1000000) (htot : ((xs.map encText).flatten).length ≤ 1000000000) (hA : 0 < xs.length → ∃ b off, A = some ⟨b, off, none⟩ ∧ Came w b off (xs.map bsv)) :
    Calls Tryd.prog 65 #[.slice A xs.length c, .func (.func 17) #[] #[]] w fun e w' => e = .returned (.string ⟨(encList (xs.map encText)).toArray⟩) ∧ Fr [] w w' := by
  have H := Lib.hid h
  have Hx := Lib.hid hx
  have HA := Lib.hid hA
  have Htot := Lib.hid htot
  have hn : I64 (xs.length : Int) := ⟨by omega, by omega⟩
  have Hn := Lib.hid hn
  have hil := itoa_len (xs.length : Int) hn.1 hn.2
  have hfr0 : Fr [] w (w.alloc (.cells #[.pointer none, .slice none 0 0] 99)) := by (repeat' (first | with_reducible exact Fr.refl _ _ | with_reducible assumption | with_reducible apply Fr.drew | with_reducible apply Fr.drewN | with_reducible apply Fr.alloc | (with_reducible refine Fr.set ?_ (.inr (by first | exact Nat.le_refl _ | exact Nat.le_succ _ | (simp; done) | (simp; omega))) _)))
  have Hfr0 := Lib.hid hfr0
  have Hb0 : Hid (Lib.IsBuilder TB TY w.heap.size w.heap.size (Lib.byteCells []) (w.alloc (.cells #[.pointer none, .slice none 0 0] TB))) := Lib.fresh_isBuilder TB TY w
  have hsz : (w.alloc (.cells #[.pointer none, .slice none 0 0] 99)).heap.size = w.heap.size + 1 := by simp
  have Hsz := Lib.hid hsz
  clear h hx hA htot hn hfr0 hsz
  go_enter Tryd.func65, Tryd.ntmps65
  go_wp2_with fail
  refine (itoa_any (H.out.quiet Hfr0.out) (xs.length : Int) Hn.out).mono ?_
  rintro e w1 ⟨rfl, hf1⟩
  have hb1 : Lib.IsBuilder TB TY w.heap.size w.heap.size (Lib.byteCells []) w1 := isB_quiet Hb0.out hf1
  have Hb1 := Lib.hid hb1
  have Hbl1 : Hid (Below w.heap.size w w1) := ((Below.refl w.heap.size w).alloc (Nat.le_refl _) _).trans ⟨hf1.os, hf1.tape, hf1.output, hf1.size, fun k hk => hf1.block k (by rw [Hsz.out]; omega) (by simp)⟩
  have hz1 : w.heap.size ≤ w1.heap.size := Hbl1.out.size
  clear hf1 hb1
  go_wp2_with fail
  refine (bws_any [] _ Hb1.out ?sz hz1).mono ?_
  case sz => exact hd_len _ hil
  rintro e w2 ⟨rfl, hb2, hbl2⟩
  rw [List.nil_append, ByteArray.data_append, Array.toList_append] at hb2
  have Hb2 : Hid (Lib.BuilderAt TB TY w.heap.size w.heap.size (.pointer (some ⟨w.heap.size, 0, none⟩)) (Lib.byteCells (Lib.itoa (xs.length : Int) ++ [91])) w2) := hb2
  have Hbl2 := Lib.hid (Hbl1.out.trans hbl2)
  clear hb2 hbl2 Hb1 Hbl1 Hb0 Hfr0 Hsz hz1
  go_wp2
  go_loopg [15] xs.length (fun gk iv wr => ∃ k : Nat, iv = .int .i64 k ∧ k ≤ xs.length ∧ gk = xs.length - k ∧ Lib.BuilderAt TB TY w.heap.size w.heap.size (.pointer (some ⟨w.heap.size, 0, none⟩)) (Lib.byteCells (Lib.itoa (xs.length : Int) ++ [91] ++ ((xs.take k).map encText).flatten)) wr ∧ Below w.heap.size w wr)
  case atStart => exact ⟨0, rfl, Nat.zero_le _, rfl, by simpa using Hb2.out, Hbl2.out⟩
  case round =>
    obtain ⟨k, rfl, hk, rfl, hb, hbl⟩ := hrel
    have Hb := Lib.hid hb
    have Hbl := Lib.hid hbl
    clear hb hbl Hb2 Hbl2
    by_cases hlt : k < xs.length
    · obtain ⟨b, off, rfl, hca⟩ := HA.out (by omega)
      obtain ⟨x, hxk⟩ : ∃ x, xs[k]? = some x := ⟨_, List.getElem?_eq_getElem hlt⟩
      have ck : wr.cell? ⟨b, off + k, none⟩ = some (bsv x) := (hca.below Hbl.out hca.1).2 k _ (by rw [List.getElem?_map, hxk]; rfl)
      have hgood : x.length ≤ 1000000000 := Hx.out x (List.mem_of_getElem? hxk)
      have hts : xs.take (k + 1) = xs.take k ++ [x] := by
        have hv : xs[k] = x := by rw [List.getElem?_eq_getElem hlt] at hxk; exact Option.some.inj hxk
        rw [List.take_succ_eq_append_getElem hlt, hv]
      have hlen1 : (((xs.take (k + 1)).map encText).flatten).length ≤ 1000000000 := by
        refine Nat.le_trans ?_ Htot.out
        conv => rhs; rw [← List.take_append_drop (k + 1) xs, List.map_append, List.flatten_append, List.length_append]
        omega
      have happ : ((xs.take (k + 1)).map encText).flatten = ((xs.take k).map encText).flatten ++ encText x := by rw [hts]; simp
      rw [happ, List.length_append] at hlen1
      have Happ := Lib.hid happ
      have Hlen1 := Lib.hid hlen1
      have Hgood := Lib.hid hgood
      clear hca hxk hts happ hlen1 hgood
      go_wp2_with fail
      refine (wtext_any (H.out.fr (S := []) (frB H.out Hbl.out) (by simp)) ⟨x.toArray⟩ (by rw [ByteArray.size_mk', List.size_toArray]; have := Hgood.out; omega)).mono ?_
      rintro e w3 ⟨rfl, hf3⟩
      have Hb3 := Lib.hid (isAt_quiet Hb.out hf3)
      have hzr := Hbl.out.size
      have Hbl3 : Hid (Below w.heap.size w w3) := Hbl.out.trans ⟨hf3.os, hf3.tape, hf3.output, hf3.size, fun k hk => hf3.block k (by omega) (by simp)⟩
      have hz3 := Hbl3.out.size
      clear hf3 ck
      go_wp2_with fail
      refine (bws_any _ _ (.inr Hb3.out) ?sz hz3).mono ?_
      case sz => exact md_len _ _ _ hil Hlen1.out
      rintro e w4 ⟨rfl, hb4, hbl4⟩
      have Hb4 : Hid (Lib.BuilderAt TB TY w.heap.size w.heap.size (.pointer (some ⟨w.heap.size, 0, none⟩)) (Lib.byteCells (Lib.itoa (xs.length : Int) ++ [91] ++ ((xs.take (k + 1)).map encText).flatten)) w4) := by
        show Lib.BuilderAt _ _ _ _ _ _ _
        rw [Happ.out, ← List.append_assoc]
        exact hb4
      have Hbl4 := Lib.hid (Hbl3.out.trans hbl4)
      clear hb4 hbl4 Hb3 Hbl3
      go_wp2
      go_roundg (xs.length - (k + 1))
      case measure => omega
      case rel => exact ⟨k + 1, by go_num, by omega, rfl, Hb4.out, Hbl4.out⟩
    · have hkk : k = xs.length := by omega
      subst hkk
      have hst := Tryd.Builder_String_any w.heap.size w.heap.size _ wr (.inr Hb.out) Hbl.out.size
      rw [List.take_of_length_le (Nat.le_refl _)] at hst
      have Hst := Lib.hid hst
      have hlim : (Lib.itoa (xs.length : Int) ++ [91] ++ (xs.map encText).flatten).length ≤ 1000000100 := by
        have := Htot.out
        rw [List.length_append, List.length_append]
        simp only [List.length_cons, List.length_nil]
        omega
      have Hfin : Hid (encList (xs.map encText) = Lib.itoa (xs.length : Int) ++ [91] ++ (xs.map encText).flatten ++ [93]) := by
        show _ = _
        unfold encList
        rw [List.length_map]
      clear hst
      generalize Lib.itoa (xs.length : Int) ++ [91] ++ (xs.map encText).flatten = acc at *
      go_wp2_with fail
      refine Hst.out.mono ?_
      rintro e w5 ⟨rfl, hb5⟩
      have Hb5 := Lib.hid (Hbl.out.trans hb5)
      clear hb5
      go_wp2
      go_ret
      exact ⟨ret_str (by rw [Hfin.out, mkb_app]), fr_below Hb5.out⟩

theorem wtexts_any {B : Nat} {w : World} {v : Value} (xs : List (List UInt8)) (h : LW B w) (hx : ∀ x, x ∈ xs → x.length ≤ 1000000000) (hl : xs.length ≤ 1000000) (htot : ((xs.map encText).flatten).length ≤ 1000000000) {B0 : Nat} (hv : SL B0 w v xs.length (xs.map bsv)) :
    Calls Tryd.prog 21 #[v] w fun e w' => e = .returned (.string ⟨(encList (xs.map encText)).toArray⟩) ∧ Fr [] w w' := by
  obtain ⟨A, c, rfl, hm, hA⟩ := hv
  have Hw := Lib.hid (wlist_str A c xs B w h hx hl htot (fun h0 => by
    obtain ⟨b, off, h1, _, h2⟩ := hA h0
    exact ⟨b, off, h1, h2⟩))
  clear h hx hl htot hA
  go_enter Tryd.func21, Tryd.ntmps21
  go_wp2_with fail
  refine Hw.out.mono ?_
  rintro e w1 ⟨rfl, hf⟩
  have Hf := Lib.hid hf
  clear hf
  go_wp2
  go_ret
  exact ⟨rfl, Hf.out⟩

end Go.Proofs.YthajdajhclpaaaaDoor
