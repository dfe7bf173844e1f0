/- Layer 1: WireNests. -/
import Derived.Test.YthajdajhclpaaaaDoorBackW
namespace Go.Proofs.YthajdajhclpaaaaDoor
open Go.RowKit Go.Shelf Wr

def partsOf (ts : List (Wv × Value × Value)) : List (List UInt8) := ts.map fun t => t.1.enc
theorem parts_take (ts : List (Wv × Value × Value)) (i : Nat) (t : Wv × Value × Value) (h : ts[i]? = some t) : partsOf (ts.take (i + 1)) = partsOf (ts.take i) ++ [t.1.enc] := by
  obtain ⟨hi, hx⟩ := List.getElem?_eq_some_iff.1 h
  unfold partsOf
  rw [List.take_succ_eq_append_getElem hi, hx, List.map_append]
  rfl
theorem encText_len (s : List UInt8) (h : s.length ≤ 1000000000) : (encText s).length ≤ s.length + 30 := by
  have h3 := itoa_len (s.length : Int) (by omega) (by omega)
  unfold encText
  rw [List.length_append, List.length_append, List.length_append]
  simp
  omega
theorem parts_total (l : List (List UInt8)) (h : ∀ t, t ∈ l → t.length ≤ 200100) : ((l.map encText).flatten).length ≤ l.length * 200200 := by
  induction l with
  | nil => exact Nat.zero_le _
  | cons t l ih =>
    have h1 := ih (fun u hu => h u (by simp [hu]))
    have h2 := h t (by simp)
    have h3 := itoa_len (t.length : Int) (by omega) (by omega)
    rw [List.map_cons, List.flatten_cons, List.length_append, List.length_cons]
    have h4 : (encText t).length ≤ t.length + 30 := by
      unfold encText
      rw [List.length_append, List.length_append, List.length_append]
      simp
      omega
    omega

set_option maxRecDepth 100000 in
set_option maxHeartbeats 4000000 in
theorem nests_any (ts : List (Wv × Value × Value)) (A : Option Addr) (c B B0 : Nat) (w : World) (h : LW B w) (hA : 0 < ts.length → ∃ b off, A = some ⟨b, off, none⟩ ∧ Came w b off (ts.flatMap wc)) (hv : ∀ t, t ∈ ts → VL B0 w t.1 t.2.1 t.2.2) (hB0 : B0 ≤ w.heap.size) (hi : ∀ t, t ∈ ts → t.1.Int64) :
    Calls Tryd.prog 6 #[.slice A ts.length c] w fun e w' => e = .returned (.bool true) ∧ Fr [] w w' := by
  have H := Lib.hid h
  have HA := Lib.hid hA
  have HV := Lib.hid hv
  have HI := Lib.hid hi
  have Hs := Lib.hid (small01_any w h)
  clear h hA hv hi
  obtain ⟨r, hr⟩ : ∃ r : Bool, r = true ↔ Few ts := by
    by_cases hf : Few ts
    · exact ⟨true, by simp [hf]⟩
    · exact ⟨false, by simp [hf]⟩
  have HRr := Lib.hid hr
  clear hr
  have Hfew : Hid (∀ w1, Fr [] w w1 → Calls Tryd.prog 12 #[.slice A ts.length c] w1 fun e w' => e = .returned (.bool r) ∧ Fr [] w1 w') := fun w1 hf => few_any ts A c B0 w1 (fun h0 => by
    obtain ⟨b, off, h1, h2⟩ := HA.out h0
    exact ⟨b, off, h1, h2.of_block hf.size (hf.block _ h2.1 (by simp))⟩) (fun t ht => (HV.out t ht).quiet hf) r HRr.out
  cases r with
  | false =>
    go_enter Tryd.func6, Tryd.ntmps6
    go_wp2_with fail
    refine Hs.out.mono ?_
    rintro e w1 ⟨rfl, hf1⟩
    have Hf1 := Lib.hid hf1
    clear hf1
    go_wp2_with fail
    refine (Hfew.out _ Hf1.out).mono ?_
    rintro e w2 ⟨rfl, hf2⟩
    have Hf2 := Lib.hid (Hf1.out.trans hf2)
    clear hf2
    go_wp2
    go_ret
    exact ⟨rfl, Hf2.out⟩
  | true =>
    obtain ⟨hl20, hsm, _⟩ := HRr.out.1 rfl
    have HS := Lib.hid hsm
    clear hsm
    go_enter Tryd.func6, Tryd.ntmps6
    go_wp2_with fail
    refine Hs.out.mono ?_
    rintro e w1 ⟨rfl, hf1⟩
    have Hf1 := Lib.hid hf1
    clear hf1
    go_wp2_with fail
    refine (Hfew.out _ Hf1.out).mono ?_
    rintro e w2 ⟨rfl, hf2⟩
    have Hf2 := Lib.hid (Hf1.out.trans hf2)
    clear hf2
    go_wp2
    go_loopg [4, 5] ts.length (fun gk v4 v5 wr => ∃ i : Nat, v5 = .int .i64 i ∧ i ≤ ts.length ∧ gk = ts.length - i ∧ Fr [] w wr ∧ wr.ownsRow w.heap.size 9 1 v4 i ((partsOf (ts.take i)).map bsv))
    case atStart => exact ⟨0, rfl, Nat.zero_le _, rfl, Hf2.out, own_nil _ _ _ Hf2.out.size⟩
    case round =>
      obtain ⟨i, rfl, hi, rfl, hb, hown⟩ := hrel
      have Hb := Lib.hid hb
      have Hown := Lib.hid hown
      clear hb hown
      by_cases hlt : i < ts.length
      · obtain ⟨b, off, rfl, hca⟩ := HA.out (by omega)
        obtain ⟨t, hti⟩ : ∃ t, ts[i]? = some t := ⟨_, List.getElem?_eq_getElem hlt⟩
        obtain ⟨x, vn, vt⟩ := t
        obtain ⟨c0, c1, c2, c3, c4⟩ := five hca Hb.out i x vn vt hti
        have hmem := List.mem_of_getElem? hti
        have Hw := Lib.hid (write_any x vn vt B B0 wr (H.out.quiet Hb.out) ((HV.out _ hmem).quiet Hb.out) (HI.out _ hmem) (HS.out _ hmem))
        have Hnx := Lib.hid (parts_take ts i _ hti)
        clear hca hti hmem
        go_wp2_with fail
        refine Hw.out.mono ?_
        rintro e w3 ⟨rfl, hf3⟩
        have Hown3 := Lib.hid (own_fr Hown.out hf3 (by simp))
        have Hf3 := Lib.hid (Hb.out.trans hf3)
        have hz3 : w.heap.size ≤ w3.heap.size := Hf3.out.size
        clear hf3
        go_wp2_with (at_builtin; refine wpList_app rfl (.tmp 22) (.tmp 28) 23 rfl w.heap.size 9 _ 1 16 Tryd.underlying23 info_it_str rfl (by decide) _ _ _ rfl (Hown3.out.alloc _) _ 9 _ rfl (row_new _ _ _ _ (by simp)) (by rfl) (by simp [Value.oneCell']) (by omega) (by omega) (by simp; omega) ?_; intro g' c' w4 hown4 hfr4)
        have Hown4 := Lib.hid hown4
        have Hf4 := Lib.hid ((Hf3.out.alloc _).then hfr4 (fun k hk => .inr (own_fp Hown3.out k hk).1))
        clear hown4 hfr4
        go_wp2
        go_roundg (ts.length - (i + 1))
        case measure => omega
        case rel =>
          refine ⟨i + 1, by go_num, by omega, rfl, Hf4.out, ?_⟩
          rw [Hnx.out, List.map_append]
          exact Hown4.out
      · have hii : i = ts.length := by omega
        subst hii
        have hown := Hown.out
        rw [List.take_length] at hown
        have hpl : (partsOf ts).length = ts.length := by unfold partsOf; rw [List.length_map]
        have hpe : ∀ q, q ∈ partsOf ts → q.length ≤ 200100 := fun q hq => by
          unfold partsOf at hq
          obtain ⟨t, ht, rfl⟩ := List.mem_map.1 hq
          exact enc_bound t.1 (HI.out t ht) (HS.out t ht)
        have htot := parts_total (partsOf ts) hpe
        have hpt : (((partsOf ts).map encText).flatten).length ≤ 20 * 200200 := Nat.le_trans htot (Nat.mul_le_mul_right 200200 (by rw [hpl]; exact hl20))
        have hsl : SL wr.heap.size wr u4 (partsOf ts).length ((partsOf ts).map bsv) := by
          rw [hpl]
          exact SL.own hown (Nat.le_refl _) (by omega)
        have Hw1 := Lib.hid (wtexts_any (partsOf ts) (H.out.quiet Hb.out) (fun t ht => by have := hpe t ht; omega) (by omega) (by omega) hsl)
        have hPl : (encList ((partsOf ts).map encText)).length ≤ 4004100 := by
          have h9 := itoa_len ((((partsOf ts).map encText).length : Nat) : Int) (by omega) (by rw [List.length_map]; omega)
          unfold encList
          rw [List.length_append, List.length_append, List.length_append]
          simp only [List.length_cons, List.length_nil]
          omega
        have hrl : rlist rtext (encList ((partsOf ts).map encText) ++ [], false) = (partsOf ts, ([], false)) := rlist_enc reads_text (partsOf ts) (fun q hq => by have := hpe q hq; omega) (by omega) []
        rw [List.append_nil] at hrl
        have Hrl := Lib.hid hrl
        have hrt : rtext (encText (encList ((partsOf ts).map encText)) ++ [], false) = (encList ((partsOf ts).map encText), ([], false)) := reads_text.toEnc _ [] (by omega)
        rw [List.append_nil] at hrt
        have Hrt := Lib.hid hrt
        have hTl : (encText (encList ((partsOf ts).map encText))).length ≤ 4004200 := by
          have h9 := encText_len (encList ((partsOf ts).map encText)) (by omega)
          omega
        have Hpl := Lib.hid hpl
        clear hown hpl hpe htot hpt hsl hrl hrt
        generalize encList ((partsOf ts).map encText) = P at *
        have Hw2 : Hid (∀ w1, LW B w1 → Calls Tryd.prog 17 #[.string ⟨P.toArray⟩] w1 fun e w' => e = .returned (.string ⟨(encText P).toArray⟩) ∧ Fr [] w1 w') := fun w1 h1 => wtext_any h1 ⟨P.toArray⟩ (by rw [size_l]; omega)
        go_wp2_with fail
        refine Hw1.out.mono ?_
        rintro e w5 ⟨rfl, hf5⟩
        have Hf5 := Lib.hid (Hb.out.trans hf5)
        clear hf5
        go_wp2_with fail
        refine (Hw2.out _ (H.out.quiet Hf5.out)).mono ?_
        rintro e w6 ⟨rfl, hf6⟩
        have Hf6 := Lib.hid (Hf5.out.trans hf6)
        clear hf6
        go_wp2_with fail
        refine (open_any (encText P) _).mono ?_
        rintro e w7 ⟨a1, rfl, ha1, hr7, hf7⟩
        have hwa1 : w.heap.size ≤ a1 := Nat.le_trans Hf6.out.size ha1
        have hrd1 := text_any a1 (encText P) false B w7 hr7 (H.out.quiet (Hf6.out.trans hf7)) (by have := H.out.le; omega) (by omega)
        rw [Hrt.out] at hrd1
        have Hrd1 := Lib.hid hrd1
        have Hf7 := Lib.hid (Hf6.out.trans hf7)
        clear hr7 hf7 hrd1 ha1
        go_wp2_with fail
        refine Hrd1.out.mono ?_
        rintro e w8 ⟨rfl, hr8, hf8⟩
        have Hf8 := Lib.hid (Hf7.out.then hf8 (fun j hj => .inr (by have e : j = a1 := (by simpa using hj); omega)))
        have Hr8 := Lib.hid hr8
        clear hr8 hf8
        go_wp2_with fail
        refine (open_any P _).mono ?_
        rintro e w9 ⟨a2, rfl, ha2, hr9, hf9⟩
        have hwa2 : w.heap.size ≤ a2 := Nat.le_trans Hf8.out.size ha2
        have HD1 := Lib.hid (done_any a1 ([], false) w9 (Hr8.out.fr hf9 (by simp)))
        have hrd2 := rtexts_any a2 P false B w9 hr9 (H.out.quiet (Hf8.out.trans hf9)) (by have := H.out.le; omega) (by omega)
        rw [Hrl.out] at hrd2
        have Hrd2 := Lib.hid hrd2
        have Hf9 := Lib.hid (Hf8.out.trans hf9)
        clear hr9 hf9 hrd2 ha2
        go_wp2_with fail
        refine HD1.out.mono ?_
        rintro e w10 ⟨rfl, rfl⟩
        go_wp2_with fail
        refine Hrd2.out.mono ?_
        rintro e w11 ⟨v, rfl, hown11, hr11, hf11⟩
        have Hf11 := Lib.hid (Hf9.out.then hf11 (fun j hj => .inr (by have e : j = a2 := (by simpa using hj); omega)))
        have HD2 := Lib.hid (done_any a2 ([], false) w11 hr11)
        have hsl2 : SL w11.heap.size w11 v ts.length ((partsOf ts).map bsv) := by
          rw [← Hpl.out]
          exact SL.own hown11 (Nat.le_refl _) (by rw [Hpl.out]; omega)
        obtain ⟨Av, cv, rfl, _, hAv⟩ := hsl2
        have HAv := Lib.hid hAv
        clear hown11 hr11 hf11 hAv
        go_wp2_with fail
        refine HD2.out.mono ?_
        rintro e w12 ⟨rfl, rfl⟩
        go_wp2
        go_loopg [9, 10] ts.length (fun gk v9 v10 wr => ∃ i : Nat, v9 = .int .i64 i ∧ i ≤ ts.length ∧ gk = ts.length - i ∧ Fr [] w12 wr)
        case atStart => exact ⟨0, rfl, Nat.zero_le _, rfl, Fr.refl _ _⟩
        case round =>
          obtain ⟨i, rfl, hi2, rfl, hb2⟩ := hrel
          have Hb2 := Lib.hid (Hf11.out.trans hb2)
          have Hb3 := Lib.hid hb2
          clear hb2
          by_cases hlt : i < ts.length
          · obtain ⟨b, off, rfl, hca⟩ := HA.out (by omega)
            obtain ⟨bv, ov, rfl, _, hcv⟩ := HAv.out (by omega)
            obtain ⟨t, hti⟩ : ∃ t, ts[i]? = some t := ⟨_, List.getElem?_eq_getElem hlt⟩
            obtain ⟨x, vn, vt⟩ := t
            have Hca := Lib.hid hca
            have Hti := Lib.hid hti
            have hmem := List.mem_of_getElem? hti
            have d0 : wr.cell? ⟨bv, ov + i, none⟩ = some (.string ⟨x.enc.toArray⟩) := (hcv.of_block Hb3.out.size (Hb3.out.block _ hcv.1 (by simp))).2 i (bsv x.enc) (by unfold partsOf; rw [List.getElem?_map, List.getElem?_map, hti]; rfl)
            have hel := enc_bound x (HI.out _ hmem) (HS.out _ hmem)
            have He : Hid (∀ w1 a3, Fr [] w w1 → w.heap.size ≤ a3 → RdIs w1 a3 (x.enc, false) → Calls Tryd.prog 33 #[.pointer (some ⟨a3, 0, none⟩), .agg (wcells x vn vt).toArray] w1 fun e w' => e = .returned (.bool true) ∧ RdIs w' a3 ([], false) ∧ Fr [a3] w1 w') := fun w1 a3 h1 h2 h3 => equal_any x vn vt B B0 a3 [] w1 (H.out.quiet h1) (by have := H.out.le; omega) (by rw [List.append_nil]; exact h3) ((HV.out _ hmem).quiet h1) (by omega) (HI.out _ hmem) (HS.out _ hmem) (by rw [List.append_nil]; omega)
            clear hca hcv hti hmem
            go_wp2_with fail
            refine (open_any x.enc _).mono ?_
            rintro e w13 ⟨a3, rfl, ha3, hr13, hf13⟩
            have hwa3 : w.heap.size ≤ a3 := Nat.le_trans Hb2.out.size ha3
            have hwb3 := Nat.le_trans Hb3.out.size ha3
            have Hf13 := Lib.hid (Hb2.out.trans hf13)
            have Hg13 := Lib.hid (Hb3.out.trans hf13)
            have Hr13 := Lib.hid hr13
            obtain ⟨c0, c1, c2, c3, c4⟩ := five Hca.out Hf13.out i x vn vt Hti.out
            clear hr13 ha3 hf13 d0
            go_wp2_with fail
            refine (He.out _ a3 Hf13.out hwa3 Hr13.out).mono ?_
            rintro e w14 ⟨rfl, hr14, hf14⟩
            have HD3 := Lib.hid (done_any a3 ([], false) w14 hr14)
            have Hf14 := Lib.hid (Hg13.out.then hf14 (fun j hj => .inr (by have e : j = a3 := (by simpa using hj); have := Hb3.out.size; omega)))
            clear hr14 hf14
            go_wp2_with fail
            refine HD3.out.mono ?_
            rintro e w15 ⟨rfl, rfl⟩
            go_wp2
            go_roundg (ts.length - (i + 1))
            case measure => omega
            case rel => exact ⟨i + 1, by go_num, by omega, rfl, Hf14.out⟩
          · have hii : i = ts.length := by omega
            subst hii
            go_wp2
            go_ret
            exact ⟨rfl, Hb2.out⟩

end Go.Proofs.YthajdajhclpaaaaDoor
