/- Layer 35: a tracker's Bytes. -/
import Derived.Test.YthajdajhclpaaaaDoorMk5
import Derived.Test.YthajdajhclpaaaaDoorMbP
import Derived.Test.YthajdajhclpaaaaDoorWireI
import Derived.Test.YthajdajhclpaaaaDoorRefL
import Derived.Deep.RegionHeld3
namespace Go.Proofs.YthajdajhclpaaaaDoor
open Go.RowKit Go.Shelf Wr

theorem fr_of_below {w w' : World} (h : Below w.heap.size w w') : Fr [] w w' := fr_below h
theorem below_fr {a w w' : World} {B : Nat} (h : Below B a w) (hf : Fr [] w w') (hB : B ≤ w.heap.size) : Below B a w' :=
  h.trans ⟨hf.os, hf.tape, hf.output, hf.size, fun k hk => hf.block k (by omega) (by simp)⟩
theorem enc1_len (x : Int × Bool) (h : I64 x.1) : (Mk.enc1 x).length ≤ 42 := by
  unfold Mk.enc1
  have h1 := encInt_len x.1 h
  have h2 := encInt_len (Mk.idl x.2) (by unfold Mk.idl I64; split <;> omega)
  rw [List.length_append]
  omega
theorem enc1_flat (l : List (Int × Bool)) (h : ∀ x, x ∈ l → I64 x.1) : ((l.map Mk.enc1).flatten).length ≤ l.length * 42 := by
  induction l with
  | nil => exact Nat.zero_le _
  | cons x l ih =>
    have h1 := ih (fun y hy => h y (by simp [hy]))
    have h2 := enc1_len x (h x (by simp))
    rw [List.map_cons, List.flatten_cons, List.length_append, List.length_cons]
    omega
theorem size_app (x y : List UInt8) : ((⟨x.toArray⟩ : ByteArray) ++ ⟨y.toArray⟩).size = x.length + y.length := by rw [← mkb_app, ByteArray.size_mk', List.size_toArray, List.length_append]

set_option maxRecDepth 100000 in
set_option maxHeartbeats 2000000 in
theorem mbytes_any {a : Nat} {A : Option Addr} {c B : Nat} {w : World} {ins : List (Int × Bool)} {com : Int} (h : Trk w a A c ins com) (hw : LW B w) (hm : ∀ x, x ∈ ins → I64 x.1) (hc : I64 com) :
    Calls Tryd.prog 50 #[.pointer (some ⟨a, 0, none⟩)] w fun e w' => e = .returned (.string ⟨(Mk.encM ins com).toArray⟩) ∧ Fr [] w w' := by
  have H := Lib.hid h
  have HW := Lib.hid hw
  have HM := Lib.hid hm
  have HC := Lib.hid hc
  have hlen := h.len
  have hnn : I64 (ins.length : Int) := ⟨by omega, by omega⟩
  have HN := Lib.hid hnn
  have hl1 := encInt_len com hc
  have hl2 := encInt_len ins.length hnn
  have hal := h.row.lt
  have HT : Hid (∀ wx, Below w.heap.size w wx → wx.cell? ⟨a, 0, none⟩ = some (.slice A ins.length c) ∧ wx.cell? ⟨a, 1, none⟩ = some (.int .i64 com)) := fun wx hb => ⟨(hb.cell (p := ⟨a, 0, none⟩) hal).trans h.c0, (hb.cell (p := ⟨a, 1, none⟩) hal).trans h.c1⟩
  have Hb0 : Hid (Lib.IsBuilder TB TY w.heap.size w.heap.size (Lib.byteCells []) (w.alloc (.cells #[.pointer none, .slice none 0 0] TB))) := Lib.fresh_isBuilder TB TY w
  have hbl0 : Below w.heap.size w (w.alloc (.cells #[.pointer none, .slice none 0 0] 99)).drew := ((Below.refl w.heap.size w).alloc (Nat.le_refl _) _).drew
  have hz0 : w.heap.size ≤ (w.alloc (.cells #[.pointer none, .slice none 0 0] 99)).drew.heap.size := by simp
  have hbd0 : Lib.IsBuilder TB TY w.heap.size w.heap.size (Lib.byteCells []) (w.alloc (.cells #[.pointer none, .slice none 0 0] TB)).drew := isB_quiet Hb0.out ((Fr.refl [] _).drew)
  clear h hw hm hc hnn Hb0
  go_enter Tryd.func50, Tryd.ntmps50
  go_wp2_with fail
  obtain ⟨wa, hwa⟩ : ∃ wa, wa = (w.alloc (.cells #[.pointer none, .slice none 0 0] 99)).drew := ⟨_, rfl⟩
  rw [← hwa] at hbl0 hz0 hbd0
  have Hwa := Lib.hid hwa
  have C1 := Lib.hid (wint_any (HW.out.quiet (fr_below hbl0)) com HC.out)
  have C2 : Hid (∀ w1, Below w.heap.size w w1 → Calls Tryd.prog 13 #[.int .i64 (ins.length : Int)] w1 fun e w2 => e = .returned (.string ⟨(encInt (ins.length : Int)).toArray⟩) ∧ Fr [] w1 w2) := fun w1 hb => by
    have := wnum_any (HW.out.quiet (fr_below hb)) (ins.length : Int) HN.out
    rw [if_neg (by omega)] at this
    exact this
  have Hbd0 := Lib.hid hbd0
  have Hbl0 := Lib.hid hbl0
  have hsz := size_app (encInt com) (encInt (ins.length : Int))
  have Hen : Hid (Mk.encM ins com = encInt com ++ encInt (ins.length : Int) ++ (ins.map Mk.enc1).flatten) := rfl
  clear hwa hbd0
  generalize hgc : encInt com = ec at *
  generalize hgn : encInt (ins.length : Int) = en at *
  clear hgc hgn
  have hs1 := size_l ec
  have hs2 := size_l en
  have hno : ¬ 9223372036854775807 < ec.length + en.length := by omega
  rw [Hwa.out] at hbl0 C1
  go_region_held3 (fun wx => wx.cell? ⟨a, 0, none⟩ = some (.slice A ins.length c) ∧ wx.cell? ⟨a, 1, none⟩ = some (.int .i64 com)) (exact HT.out _ (by assumption)) (first
    | (go_at_call 15; refine C1.out.mono ?_; rintro e w1 ⟨rfl, hf1⟩; have hb1 : Below w.heap.size w w1 := below_fr hbl0 hf1 (by simp); have hbd1 := Lib.hid (isB_quiet Hbd0.out (Hwa.out ▸ hf1)); clear hf1)
    | (go_at_call 13; refine (C2.out _ hb1).mono ?_; rintro e w2 ⟨rfl, hf2⟩; have hb2 : Below w.heap.size w w2 := below_fr hb1 hf2 hb1.size; have hbd2 := Lib.hid (isB_quiet hbd1.out hf2); clear hf2)
    | (go_at_call 80; refine (bws_any [] _ hbd2.out (by rw [hsz]; simp; omega) hb2.size).mono ?_; rintro e w3 ⟨rfl, hbd3, hbl3⟩; have hb3 : Below w.heap.size w w3 := hb2.trans hbl3; have Hbd3 := Lib.hid hbd3; clear hbd3 hbl3))
  have Hb3 : Hid (Lib.BuilderAt TB TY w.heap.size w.heap.size (.pointer (some ⟨w.heap.size, 0, none⟩)) (Lib.byteCells (ec ++ en)) w3) := by
    have := Hbd3.out
    rw [List.nil_append, ByteArray.data_append, Array.toList_append] at this
    exact this
  have Hbl3 := Lib.hid hb3
  have c3 := (HT.out _ hb3).1
  have hz3 := hb3.size
  clear hb1 hbd1 hb2 hbd2 hb3 Hbd3 hsz hno hs1 hs2
  have Hfl := Lib.hid (enc1_flat ins HM.out)
  go_wp2
  clear c3
  go_loopg [25] ins.length (fun gk iv wr => ∃ k : Nat, iv = .int .i64 k ∧ k ≤ ins.length ∧ gk = ins.length - k ∧ Lib.BuilderAt TB TY w.heap.size w.heap.size (.pointer (some ⟨w.heap.size, 0, none⟩)) (Lib.byteCells (ec ++ en ++ ((ins.take k).map Mk.enc1).flatten)) wr ∧ Below w.heap.size w wr)
  case atStart => exact ⟨0, rfl, Nat.zero_le _, rfl, by simpa using Hb3.out, Hbl3.out⟩
  case round =>
    obtain ⟨k, rfl, hk, rfl, hb, hbl⟩ := hrel
    have Hb := Lib.hid hb
    have Hbl := Lib.hid hbl
    clear hb hbl
    have hzr := Hbl.out.size
    by_cases hlt : k < ins.length
    · obtain ⟨g, rfl, x0, x1⟩ := H.out.inp.cell k hlt
      have hgl : g < w.heap.size := World.block_lt_of_cell? w _ x0
      have d0 : wr.cell? ⟨g, k * 2, none⟩ = some (.int .i64 ins[k].1) := (Hbl.out.cell (p := ⟨g, k * 2, none⟩) hgl).trans x0
      have d1 : wr.cell? ⟨g, k * 2 + 1, none⟩ = some (.bool ins[k].2) := (Hbl.out.cell (p := ⟨g, k * 2 + 1, none⟩) hgl).trans x1
      have hts : ((ins.take (k + 1)).map Mk.enc1).flatten = ((ins.take k).map Mk.enc1).flatten ++ Mk.enc1 ins[k] := flat_take1 Mk.enc1 ins k _ (List.getElem?_eq_getElem hlt)
      have Hts := Lib.hid hts
      have hfl : (((ins.take k).map Mk.enc1).flatten).length ≤ 42000 := by
        have h1 := enc1_flat (ins.take k) (fun x hx => HM.out x (List.mem_of_mem_take hx))
        have h2 : (ins.take k).length ≤ 1000 := by rw [List.length_take]; omega
        omega
      have hx64 := HM.out _ (List.getElem_mem hlt)
      have hin : Mk.enc1 ins[k] = encInt ins[k].1 ++ encInt (Mk.idl ins[k].2) := rfl
      have Hin := Lib.hid hin
      generalize ins[k] = x at *
      obtain ⟨m, b⟩ := x
      simp only at d0 d1 hx64
      have Hx64 := Lib.hid hx64
      clear x0 x1 hts hin hx64
      have hl3 := encInt_len m Hx64.out
      cases b
      · have hidl : Mk.idl false = 0 := rfl
        rw [hidl] at Hin
        have hl4 := encInt_len 0 (by unfold I64; omega)
        have hsz2 := size_app (encInt m) (encInt 0)
        have Hap := Lib.hid (mkb_app (encInt m) (encInt 0))
        have hfa : Fr [] wr (wr.alloc (.cells #[.int .i64 m, .bool false] 93)) := by (repeat' (first | with_reducible exact Fr.refl _ _ | with_reducible assumption | with_reducible apply Fr.drew | with_reducible apply Fr.drewN | with_reducible apply Fr.alloc | (with_reducible refine Fr.set ?_ (.inr (by first | exact Nat.le_refl _ | exact Nat.le_succ _ | (simp; done) | (simp; omega))) _)))
        have Hfa := Lib.hid hfa
        clear hidl hfa
        go_wp2_with fail
        refine (wint_any (HW.out.quiet ((fr_below Hbl.out).trans Hfa.out)) m Hx64.out).mono ?_
        rintro e w5 ⟨rfl, hf5⟩
        have Hf5 := Lib.hid (Hfa.out.trans hf5)
        clear hf5
        go_wp2_with fail
        refine (wint_any (HW.out.quiet ((fr_below Hbl.out).trans Hf5.out)) 0 (by unfold I64; omega)).mono ?_
        rintro e w6 ⟨rfl, hf6⟩
        have hf6' := Hf5.out.trans hf6
        have Hb6 := Lib.hid (isAt_quiet Hb.out hf6')
        have Hbl6 : Hid (Below w.heap.size w w6) := below_fr Hbl.out hf6' hzr
        have hz6 := Hbl6.out.size
        clear hf6 hf6' d0 d1
        generalize hq1 : encInt m = q1 at *
        generalize hq2 : encInt 0 = q2 at *
        have hsq1 := size_l q1
        have hsq2 := size_l q2
        go_wp2_with fail
        refine (bws_any _ _ (.inr Hb6.out) ?sz hz6).mono ?_
        case sz => rw [hsz2, List.length_append, List.length_append]; omega
        rintro e w7 ⟨rfl, hb7, hbl7⟩
        have Hb7 : Hid (Lib.BuilderAt TB TY w.heap.size w.heap.size (.pointer (some ⟨w.heap.size, 0, none⟩)) (Lib.byteCells (ec ++ en ++ ((ins.take (k + 1)).map Mk.enc1).flatten)) w7) := by
          show Lib.BuilderAt _ _ _ _ _ _ _
          rw [Hts.out, Hin.out, ← List.append_assoc]
          rw [← Hap.out] at hb7
          exact hb7
        have Hbl7 := Lib.hid (Hbl6.out.trans hbl7)
        clear hb7 hbl7 Hb6 Hbl6 hq1 hq2 hsq1 hsq2 hsz2
        go_wp2
        go_roundg (ins.length - (k + 1))
        case measure => omega
        case rel => exact ⟨k + 1, by go_num, by omega, rfl, Hb7.out, Hbl7.out⟩
      · have hidl : Mk.idl true = 1 := rfl
        rw [hidl] at Hin
        have hl4 := encInt_len 1 (by unfold I64; omega)
        have hsz2 := size_app (encInt m) (encInt 1)
        have Hap := Lib.hid (mkb_app (encInt m) (encInt 1))
        have hfa : Fr [] wr (wr.alloc (.cells #[.int .i64 m, .bool true] 93)) := by (repeat' (first | with_reducible exact Fr.refl _ _ | with_reducible assumption | with_reducible apply Fr.drew | with_reducible apply Fr.drewN | with_reducible apply Fr.alloc | (with_reducible refine Fr.set ?_ (.inr (by first | exact Nat.le_refl _ | exact Nat.le_succ _ | (simp; done) | (simp; omega))) _)))
        have Hfa := Lib.hid hfa
        clear hidl hfa
        go_wp2_with fail
        refine (wint_any (HW.out.quiet ((fr_below Hbl.out).trans Hfa.out)) m Hx64.out).mono ?_
        rintro e w5 ⟨rfl, hf5⟩
        have Hf5 := Lib.hid (Hfa.out.trans hf5)
        clear hf5
        go_wp2_with fail
        refine (wint_any (HW.out.quiet ((fr_below Hbl.out).trans Hf5.out)) 1 (by unfold I64; omega)).mono ?_
        rintro e w6 ⟨rfl, hf6⟩
        have hf6' := Hf5.out.trans hf6
        have Hb6 := Lib.hid (isAt_quiet Hb.out hf6')
        have Hbl6 : Hid (Below w.heap.size w w6) := below_fr Hbl.out hf6' hzr
        have hz6 := Hbl6.out.size
        clear hf6 hf6' d0 d1
        generalize hq1 : encInt m = q1 at *
        generalize hq2 : encInt 1 = q2 at *
        have hsq1 := size_l q1
        have hsq2 := size_l q2
        go_wp2_with fail
        refine (bws_any _ _ (.inr Hb6.out) ?sz hz6).mono ?_
        case sz => rw [hsz2, List.length_append, List.length_append]; omega
        rintro e w7 ⟨rfl, hb7, hbl7⟩
        have Hb7 : Hid (Lib.BuilderAt TB TY w.heap.size w.heap.size (.pointer (some ⟨w.heap.size, 0, none⟩)) (Lib.byteCells (ec ++ en ++ ((ins.take (k + 1)).map Mk.enc1).flatten)) w7) := by
          show Lib.BuilderAt _ _ _ _ _ _ _
          rw [Hts.out, Hin.out, ← List.append_assoc]
          rw [← Hap.out] at hb7
          exact hb7
        have Hbl7 := Lib.hid (Hbl6.out.trans hbl7)
        clear hb7 hbl7 Hb6 Hbl6 hq1 hq2 hsq1 hsq2 hsz2
        go_wp2
        go_roundg (ins.length - (k + 1))
        case measure => omega
        case rel => exact ⟨k + 1, by go_num, by omega, rfl, Hb7.out, Hbl7.out⟩
    · have hkk : k = ins.length := by omega
      subst hkk
      have hst := Tryd.Builder_String_any w.heap.size w.heap.size _ wr (.inr Hb.out) Hbl.out.size
      rw [List.take_of_length_le (Nat.le_refl _), ← Hen.out] at hst
      have Hst := Lib.hid hst
      clear hst
      go_wp2_with fail
      refine Hst.out.mono ?_
      rintro e w5 ⟨rfl, hb5⟩
      have Hb5 := Lib.hid (Hbl.out.trans hb5)
      clear hb5
      go_wp2
      go_ret
      exact ⟨rfl, fr_below Hb5.out⟩

end Go.Proofs.YthajdajhclpaaaaDoor
