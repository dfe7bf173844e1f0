/- Layer 1: WireBack. -/
import Derived.Test.YthajdajhclpaaaaDoorLawE
import Derived.Test.YthajdajhclpaaaaDoorLawF
namespace Go.Proofs.YthajdajhclpaaaaDoor
open Go.RowKit Go.Shelf Wr

def encs (ts : List (Wv × Value × Value)) : List UInt8 := (ts.map fun t => t.1.enc).flatten
theorem encs_nil : encs [] = [] := rfl
theorem encs_cons (t : Wv × Value × Value) (ts : List (Wv × Value × Value)) : encs (t :: ts) = t.1.enc ++ encs ts := rfl
theorem encs_take (ts : List (Wv × Value × Value)) (i : Nat) (t : Wv × Value × Value) (h : ts[i]? = some t) : encs (ts.take (i + 1)) = encs (ts.take i) ++ t.1.enc := by
  obtain ⟨hi, hx⟩ := List.getElem?_eq_some_iff.1 h
  unfold encs
  rw [List.take_succ_eq_append_getElem hi, hx, List.map_append, List.flatten_append]
  simp
theorem encs_drop (ts : List (Wv × Value × Value)) (i : Nat) (t : Wv × Value × Value) (h : ts[i]? = some t) : encs (ts.drop i) = t.1.enc ++ encs (ts.drop (i + 1)) := by
  obtain ⟨hi, hx⟩ := List.getElem?_eq_some_iff.1 h
  rw [List.drop_eq_getElem_cons hi, hx, encs_cons]
theorem encs_len (ts : List (Wv × Value × Value)) (h : ∀ t, t ∈ ts → t.1.enc.length ≤ 200100) : (encs ts).length ≤ ts.length * 200100 := by
  induction ts with
  | nil => exact Nat.zero_le _
  | cons t ts ih =>
    have h1 := ih (fun u hu => h u (by simp [hu]))
    have h2 := h t (by simp)
    rw [encs_cons, List.length_append, List.length_cons]
    omega
theorem str_app (x y : List UInt8) : (⟨x.toArray⟩ : ByteArray) ++ ⟨y.toArray⟩ = ⟨(x ++ y).toArray⟩ := (mkb_app x y).symm

/-- The cells of one value in the list. -/
theorem five {w wr : World} {b off : Nat} {ts : List (Wv × Value × Value)} (hca : Came w b off (ts.flatMap wc)) (hf : Fr [] w wr) (i : Nat) (x : Wv) (vn vt : Value) (h : ts[i]? = some (x, vn, vt)) :
    wr.cell? ⟨b, off + i * 5, none⟩ = some (.int .i64 x.kind) ∧ wr.cell? ⟨b, off + i * 5 + 1, none⟩ = some (.int .i64 x.num) ∧ wr.cell? ⟨b, off + i * 5 + 2, none⟩ = some (.string ⟨x.text.toArray⟩) ∧ wr.cell? ⟨b, off + i * 5 + 3, none⟩ = some vn ∧ wr.cell? ⟨b, off + i * 5 + 4, none⟩ = some vt := by
  have hcw := hca.of_block hf.size (hf.block _ hca.1 (by simp))
  have c0 := hcw.2 _ _ (wc_at ts i _ h 0 _ rfl)
  have c1 := hcw.2 _ _ (wc_at ts i _ h 1 _ rfl)
  have c2 := hcw.2 _ _ (wc_at ts i _ h 2 _ rfl)
  have c3 := hcw.2 _ _ (wc_at ts i _ h 3 _ rfl)
  have c4 := hcw.2 _ _ (wc_at ts i _ h 4 _ rfl)
  rw [← Nat.add_assoc] at c0 c1 c2 c3 c4
  exact ⟨c0, c1, c2, c3, c4⟩

set_option maxRecDepth 100000 in
set_option maxHeartbeats 4000000 in
theorem back_any (ts : List (Wv × Value × Value)) (A : Option Addr) (c B B0 : Nat) (tail : List UInt8) (w : World) (h : LW B w) (hA : 0 < ts.length → ∃ b off, A = some ⟨b, off, none⟩ ∧ Came w b off (ts.flatMap wc)) (hv : ∀ t, t ∈ ts → VL B0 w t.1 t.2.1 t.2.2) (hB0 : B0 ≤ w.heap.size) (hi : ∀ t, t ∈ ts → t.1.Int64) :
    Calls Tryd.prog 8 #[.slice A ts.length c, .string ⟨tail.toArray⟩] w fun e w' => e = .returned (.bool true) ∧ Fr [] w w' := by
  have H := Lib.hid h
  have HA := Lib.hid hA
  have HV := Lib.hid hv
  have HI := Lib.hid hi
  have Hs := Lib.hid (small01_any w h)
  have hszt := size_l tail
  clear h hA hv hi
  obtain ⟨r, hr⟩ : ∃ r : Bool, r = true ↔ Few ts := by
    by_cases hf : Few ts
    · exact ⟨true, by simp [hf]⟩
    · exact ⟨false, by simp [hf]⟩
  have HRr := Lib.hid hr
  clear hr
  have Hfew : Hid (∀ w1, Fr [] w w1 → Calls Tryd.prog 12 #[.slice A ts.length c] w1 fun e w' => e = .returned (.bool r) ∧ Fr [] w1 w') := fun w1 hf => few_any ts A c B0 w1 (fun h0 => by
    obtain ⟨b, off, h1, h2⟩ := HA.out h0
    exact ⟨b, off, h1, h2.of_block hf.size (hf.block _ h2.1 (by simp))⟩) (fun t ht => (HV.out t ht).quiet hf) r HRr.out
  cases r with
  | false =>
    go_enter Tryd.func8, Tryd.ntmps8
    go_wp2_with fail
    refine Hs.out.mono ?_
    rintro e w1 ⟨rfl, hf1⟩
    have Hf1 := Lib.hid hf1
    clear hf1
    go_wp2_with fail
    refine (Hfew.out _ Hf1.out).mono ?_
    rintro e w2 ⟨rfl, hf2⟩
    have Hf2 := Lib.hid (Hf1.out.trans hf2)
    clear hf2
    go_wp2
    go_ret
    exact ⟨rfl, Hf2.out⟩
  | true =>
    obtain ⟨hl20, hsm, _⟩ := HRr.out.1 rfl
    have HS := Lib.hid hsm
    have hlen : (encs ts).length ≤ 20 * 200100 := by
      exact Nat.le_trans (encs_len ts (fun t ht => enc_bound t.1 (HI.out t ht) (hsm t ht))) (Nat.mul_le_mul_right 200100 hl20)
    have Hlen := Lib.hid hlen
    clear hsm hlen
    by_cases ht4 : (400 : Int) < tail.length
    · go_enter Tryd.func8, Tryd.ntmps8
      go_wp2_with fail
      refine Hs.out.mono ?_
      rintro e w1 ⟨rfl, hf1⟩
      have Hf1 := Lib.hid hf1
      clear hf1
      go_wp2_with fail
      refine (Hfew.out _ Hf1.out).mono ?_
      rintro e w2 ⟨rfl, hf2⟩
      have Hf2 := Lib.hid (Hf1.out.trans hf2)
      clear hf2
      go_wp2
      go_ret
      exact ⟨rfl, Hf2.out⟩
    have hdt : decide ((400 : Int) < (tail.length : Int)) = false := decide_eq_false ht4
    go_enter Tryd.func8, Tryd.ntmps8
    go_wp2_with fail
    refine Hs.out.mono ?_
    rintro e w1 ⟨rfl, hf1⟩
    have Hf1 := Lib.hid hf1
    clear hf1
    go_wp2_with fail
    refine (Hfew.out _ Hf1.out).mono ?_
    rintro e w2 ⟨rfl, hf2⟩
    have Hf2 := Lib.hid (Hf1.out.trans hf2)
    clear hf2
    go_wp2
    go_loopg [6, 7] ts.length (fun gk v6 v7 wr => ∃ i : Nat, v7 = .int .i64 i ∧ v6 = .string ⟨(encs (ts.take i)).toArray⟩ ∧ i ≤ ts.length ∧ gk = ts.length - i ∧ Fr [] w wr)
    case atStart => exact ⟨0, rfl, rfl, Nat.zero_le _, rfl, Hf2.out⟩
    case round =>
      obtain ⟨i, rfl, rfl, hi, rfl, hb⟩ := hrel
      have Hb := Lib.hid hb
      clear hb
      by_cases hlt : i < ts.length
      · obtain ⟨b, off, rfl, hca⟩ := HA.out (by omega)
        obtain ⟨t, hti⟩ : ∃ t, ts[i]? = some t := ⟨_, List.getElem?_eq_getElem hlt⟩
        obtain ⟨x, vn, vt⟩ := t
        obtain ⟨c0, c1, c2, c3, c4⟩ := five hca Hb.out i x vn vt hti
        have hmem := List.mem_of_getElem? hti
        have Hw := Lib.hid (write_any x vn vt B B0 wr (H.out.quiet Hb.out) ((HV.out _ hmem).quiet Hb.out) (HI.out _ hmem) (HS.out _ hmem))
        have Hnx := Lib.hid (encs_take ts i _ hti)
        have hsz1 : (encs (ts.take i)).length + x.enc.length ≤ 20 * 200100 := by
          have h1 := congrArg List.length Hnx.out
          have h2 : (encs (ts.take (i + 1))).length ≤ (encs ts).length := by
            conv => rhs; rw [← List.take_append_drop (i + 1) ts]
            unfold encs
            rw [List.map_append, List.flatten_append, List.length_append]
            omega
          have h3 := Hlen.out
          rw [List.length_append] at h1
          simp only at h1
          omega
        clear hca hti hmem
        generalize encs (ts.take i) = acc at *
        have hsa := size_l acc
        have hse := size_l x.enc
        have hap := str_app acc x.enc
        have Hap := Lib.hid hap
        clear hap
        go_wp2_with fail
        refine Hw.out.mono ?_
        rintro e w3 ⟨rfl, hf3⟩
        have Hf3 := Lib.hid (Hb.out.trans hf3)
        clear hf3
        go_wp2
        go_roundg (ts.length - (i + 1))
        case measure => omega
        case rel => exact ⟨i + 1, by go_num, by rw [Hnx.out, ← Hap.out], by omega, rfl, Hf3.out⟩
      · have hii : i = ts.length := by omega
        subst hii
        rw [List.take_length]
        have Hap := Lib.hid (str_app (encs ts) tail)
        have hse := size_l (encs ts)
        have hs2 := size_l (encs ts ++ tail)
        have hl2 := Hlen.out
        go_wp2_with fail
        rw [Hap.out]
        refine (open_any (encs ts ++ tail) _).mono ?_
        rintro e w4 ⟨a, rfl, ha, hr4, hf4⟩
        have Hf4 := Lib.hid (Hb.out.trans hf4)
        have Hr4 := Lib.hid hr4
        have hwa : w.heap.size ≤ a := Nat.le_trans Hb.out.size ha
        clear hf4 hr4 ha
        go_wp2
        go_loopg [9] ts.length (fun gk v9 wr => ∃ i : Nat, v9 = .int .i64 i ∧ i ≤ ts.length ∧ gk = ts.length - i ∧ RdIs wr a (encs (ts.drop i) ++ tail, false) ∧ Fr [] w wr)
        case atStart => exact ⟨0, rfl, Nat.zero_le _, rfl, Hr4.out, Hf4.out⟩
        case round =>
          obtain ⟨i, rfl, hi2, rfl, hrd, hb2⟩ := hrel
          have Hrd := Lib.hid hrd
          have Hb2 := Lib.hid hb2
          clear hrd hb2
          by_cases hlt : i < ts.length
          · obtain ⟨b, off, rfl, hca⟩ := HA.out (by omega)
            obtain ⟨t, hti⟩ : ∃ t, ts[i]? = some t := ⟨_, List.getElem?_eq_getElem hlt⟩
            obtain ⟨x, vn, vt⟩ := t
            obtain ⟨c0, c1, c2, c3, c4⟩ := five hca Hb2.out i x vn vt hti
            have hmem := List.mem_of_getElem? hti
            have hrd := Hrd.out
            rw [encs_drop ts i _ hti, List.append_assoc] at hrd
            have hsz1 : (x.enc ++ (encs (ts.drop (i + 1)) ++ tail)).length ≤ 20 * 200100 + 400 := by
              have h2 : (encs (ts.drop i)).length ≤ (encs ts).length := by
                conv => rhs; rw [← List.take_append_drop i ts]
                unfold encs
                rw [List.map_append, List.flatten_append, List.length_append]
                omega
              rw [encs_drop ts i _ hti, List.length_append] at h2
              rw [List.length_append, List.length_append]
              simp only at h2
              omega
            have He := Lib.hid (equal_any x vn vt B B0 a (encs (ts.drop (i + 1)) ++ tail) _ (H.out.quiet Hb2.out) (by have := H.out.le; omega) hrd ((HV.out _ hmem).quiet Hb2.out) (by omega) (HI.out _ hmem) (HS.out _ hmem) (by omega))
            clear hca hti hmem hrd hsz1
            go_wp2_with fail
            refine He.out.mono ?_
            rintro e w5 ⟨rfl, hr5, hf5⟩
            have Hr5 := Lib.hid hr5
            have Hf5 := Lib.hid (Hb2.out.then hf5 (fun j hj => .inr (by have e : j = a := (by simpa using hj); omega)))
            clear hr5 hf5
            go_wp2
            go_roundg (ts.length - (i + 1))
            case measure => omega
            case rel => exact ⟨i + 1, by go_num, by omega, rfl, Hr5.out, Hf5.out⟩
          · have hii : i = ts.length := by omega
            subst hii
            have hrd := Hrd.out
            rw [List.drop_length, encs_nil, List.nil_append] at hrd
            have HL := Lib.hid (left_any a (tail, false) _ hrd (by show tail.length ≤ _; omega))
            have HD := Lib.hid (done_any a (tail, false) _ hrd)
            have HR := Lib.hid (rest_any a (tail, false) _ hrd)
            clear hrd
            go_wp2_with fail
            refine HL.out.mono ?_
            rintro e w6 ⟨rfl, rfl⟩
            go_wp2_with fail
            refine HD.out.mono ?_
            rintro e w7 ⟨rfl, rfl⟩
            cases tail with
            | nil =>
              go_wp2_with fail
              refine HR.out.mono ?_
              rintro e w8 ⟨rfl, hr8, hf8⟩
              have Hf8 := Lib.hid (Hb2.out.then hf8 (fun j hj => .inr (by have e : j = a := (by simpa using hj); omega)))
              have HL2 := Lib.hid (left_any a ([], false) _ hr8 (by decide))
              have HD2 := Lib.hid (done_any a ([], false) _ hr8)
              clear hr8 hf8
              go_wp2_with (first
                | (go_at_call 30; refine HL2.out.mono ?_; rintro e w9 ⟨rfl, rfl⟩)
                | (go_at_call 31; refine HD2.out.mono ?_; rintro e w9 ⟨rfl, rfl⟩))
              go_ret
              exact ⟨rfl, Hf8.out⟩
            | cons c2 r2 =>
              have hc2 : ¬ (c2 :: r2) = [] := by simp
              have hte : (c2 :: r2).isEmpty = false := rfl
              generalize c2 :: r2 = tail at *
              go_wp2_with fail
              refine HR.out.mono ?_
              rintro e w8 ⟨rfl, hr8, hf8⟩
              have Hf8 := Lib.hid (Hb2.out.then hf8 (fun j hj => .inr (by have e : j = a := (by simpa using hj); omega)))
              have HL2 := Lib.hid (left_any a ([], false) _ hr8 (by decide))
              have HD2 := Lib.hid (done_any a ([], false) _ hr8)
              clear hr8 hf8
              go_wp2_with (first
                | (go_at_call 30; refine HL2.out.mono ?_; rintro e w9 ⟨rfl, rfl⟩)
                | (go_at_call 31; refine HD2.out.mono ?_; rintro e w9 ⟨rfl, rfl⟩))
              go_ret
              exact ⟨rfl, Hf8.out⟩

end Go.Proofs.YthajdajhclpaaaaDoor
