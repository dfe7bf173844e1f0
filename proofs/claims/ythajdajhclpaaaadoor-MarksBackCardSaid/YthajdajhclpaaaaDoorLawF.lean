/- Layer 1: few. -/
import Derived.Test.YthajdajhclpaaaaDoorLawV
import Derived.StillTailTactics
namespace Go.Proofs.YthajdajhclpaaaaDoor
open Go.RowKit Go.Shelf Wr

def wc (t : Wv × Value × Value) : List Value := wcells t.1 t.2.1 t.2.2
theorem wc_len (t : Wv × Value × Value) : (wc t).length = 5 := rfl
theorem wc_at (l : List (Wv × Value × Value)) (i : Nat) (t : Wv × Value × Value) (h : l[i]? = some t) (j : Nat) (u : Value) (hu : (wc t)[j]? = some u) : (l.flatMap wc)[i * 5 + j]? = some u := by
  induction l generalizing i with
  | nil => cases h
  | cons y l ih =>
    rw [List.flatMap_cons]
    cases i with
    | zero =>
      have e : y = t := by simpa using h
      subst e
      rw [Nat.zero_mul, Nat.zero_add, List.getElem?_append_left (List.getElem?_eq_some_iff.1 hu).1]
      exact hu
    | succ i =>
      have h' : l[i]? = some t := by simpa using h
      have e1 : (i + 1) * 5 + j = (wc y).length + (i * 5 + j) := by rw [wc_len]; omega
      rw [e1, List.getElem?_append_right (by omega), Nat.add_sub_cancel_left]
      exact ih i h'

def size01 (x : Wv) : Nat := x.text.length + x.nums.length + x.texts.length + (x.texts.map List.length).sum
def total01 (ts : List (Wv × Value × Value)) : Nat := (ts.map fun t => size01 t.1).sum
/-- What few asks. -/
def Few (ts : List (Wv × Value × Value)) : Prop := ts.length ≤ 20 ∧ (∀ t, t ∈ ts → t.1.Small) ∧ total01 ts ≤ 400
theorem sum_take {α : Type} (f : α → Nat) (l : List α) (i : Nat) (x : α) (h : l[i]? = some x) : ((l.take (i + 1)).map f).sum = ((l.take i).map f).sum + f x := by
  obtain ⟨hi, hx⟩ := List.getElem?_eq_some_iff.1 h
  rw [List.take_succ_eq_append_getElem hi, hx, List.map_append, List.sum_append]
  simp
theorem few_no {b : Bool} {ts : List (Wv × Value × Value)} (hb : b = true ↔ Few ts) (h : ¬ Few ts) : Ending.returned (.bool false) = .returned (.bool b) := by
  cases b with
  | false => rfl
  | true => exact absurd (hb.1 rfl) h
set_option maxRecDepth 100000 in
set_option maxHeartbeats 4000000 in
theorem few_any (ts : List (Wv × Value × Value)) (A : Option Addr) (c B0 : Nat) (w : World) (hA : 0 < ts.length → ∃ b off, A = some ⟨b, off, none⟩ ∧ Came w b off (ts.flatMap wc)) (hv : ∀ t, t ∈ ts → VL B0 w t.1 t.2.1 t.2.2) (r : Bool) (hr : r = true ↔ Few ts) :
    Calls Tryd.prog 12 #[.slice A ts.length c] w fun e w' => e = .returned (.bool r) ∧ Fr [] w w' := by
  have HRr := Lib.hid hr
  clear hr
  have HA := Lib.hid hA
  have HV := Lib.hid hv
  clear hA hv
  by_cases h20 : (20 : Int) < ts.length
  · go_enter Tryd.func12, Tryd.ntmps12
    go_wp2
    go_ret
    exact ⟨few_no HRr.out (fun h => by have := h.1; omega), Fr.refl _ _⟩
  have hl20 : ts.length ≤ 20 := by omega
  have hd20 : decide ((20 : Int) < (ts.length : Int)) = false := decide_eq_false h20
  go_enter Tryd.func12, Tryd.ntmps12
  go_wp2
  go_loopg [3, 4, 5] ts.length (fun gk v3 v4 v5 wr => ∃ (i : Nat) (n : Int), v4 = .int .i64 i ∧ v3 = .int .i64 n ∧ i ≤ ts.length ∧ gk = ts.length - i ∧ n = (((ts.take i).map fun t => size01 t.1).sum : Nat) ∧ n ≤ i * 1000000 ∧ Fr [] w wr ∧ ∀ j t, j < i → ts[j]? = some t → t.1.Small)
  case atStart => exact ⟨0, 0, rfl, rfl, Nat.zero_le _, rfl, by simp, by omega, Fr.refl _ _, fun j t hj => absurd hj (by omega)⟩
  case round =>
    obtain ⟨i, n, rfl, rfl, hi, rfl, hnn, hn1, hb, hsm⟩ := hrel
    have hn0 : 0 ≤ n := by omega
    have Hnn := Lib.hid hnn
    clear hnn
    have Hb := Lib.hid hb
    have Hsm := Lib.hid hsm
    clear hb hsm
    by_cases hlt : i < ts.length
    · obtain ⟨b, off, rfl, hca⟩ := HA.out (by omega)
      obtain ⟨t, hti⟩ : ∃ t, ts[i]? = some t := ⟨_, List.getElem?_eq_getElem hlt⟩
      have hcw := hca.of_block Hb.out.size (Hb.out.block _ hca.1 (by simp))
      have c2 := hcw.2 _ _ (wc_at ts i t hti 2 _ rfl)
      have c3 := hcw.2 _ _ (wc_at ts i t hti 3 _ rfl)
      have c4 := hcw.2 _ _ (wc_at ts i t hti 4 _ rfl)
      rw [← Nat.add_assoc] at c2 c3 c4
      have hvl := HV.out t (List.mem_of_getElem? hti)
      have Hnx := Lib.hid (sum_take (fun t => size01 t.1) ts i t hti)
      have Hmem := Lib.hid (List.mem_of_getElem? hti)
      have Hti := Lib.hid hti
      have Hsp := Lib.hid (show ∀ t', ts[i]? = some t' → t' = t from fun t' h' => Option.some.inj (h'.symm.trans hti))
      have Hca := Lib.hid hca
      have Hc4 := Lib.hid (wc_at ts i t hti 4 _ rfl)
      clear hca hcw hti
      obtain ⟨⟨kind, num, text, nums, texts⟩, vn, vt⟩ := t
      obtain ⟨⟨An, cn, e1, _, hAn⟩, ⟨At, ct, e2, _, hAt⟩⟩ := hvl
      simp only at c2 c3 c4 hAn hAt e1 e2
      subst e1
      subst e2
      have HAt := Lib.hid hAt
      clear hAn hAt
      have hszt := size_l text
      by_cases hn4 : (400 : Int) < nums.length
      · go_wp2
        go_ret
        exact ⟨few_no HRr.out (fun h => by have : nums.length ≤ 400 := (h.2.1 _ Hmem.out).nums; omega), Hb.out⟩
      have hdn : decide ((400 : Int) < (nums.length : Int)) = false := decide_eq_false hn4
      by_cases ht4 : (400 : Int) < texts.length
      · go_wp2
        go_ret
        exact ⟨few_no HRr.out (fun h => by have : texts.length ≤ 400 := (h.2.1 _ Hmem.out).texts; omega), Hb.out⟩
      have hdt : decide ((400 : Int) < (texts.length : Int)) = false := decide_eq_false ht4
      by_cases hx4 : (400 : Int) < text.length
      · go_wp2
        go_ret
        exact ⟨few_no HRr.out (fun h => by have : text.length ≤ 400 := (h.2.1 _ Hmem.out).text; omega), Hb.out⟩
      have hdx : decide ((400 : Int) < (text.length : Int)) = false := decide_eq_false hx4
      have hw1 : IntKind.i64.wrap (n + (text.length : Int)) = n + text.length := by rw [IntKind.wrap_i64]; omega
      have hw2 : IntKind.i64.wrap (n + (text.length : Int) + (nums.length : Int)) = n + text.length + nums.length := by rw [IntKind.wrap_i64]; omega
      have hw3 : IntKind.i64.wrap (n + (text.length : Int) + (nums.length : Int) + (texts.length : Int)) = n + text.length + nums.length + texts.length := by rw [IntKind.wrap_i64]; omega
      go_wp2_with fail
      go_still_tail 22, (by kernel_rfl)
      change wpList _ _ _ _ _ wr.drew
      go_wp2
      go_loopg [3, 5] texts.length (fun gk v3 v5 wr => ∃ (k : Nat) (m : Int), v5 = .int .i64 k ∧ v3 = .int .i64 m ∧ k ≤ texts.length ∧ gk = texts.length - k ∧ m = n + text.length + nums.length + texts.length + (((texts.take k).map List.length).sum : Nat) ∧ m ≤ n + 1200 + k * 400 ∧ Fr [] w wr ∧ ∀ j (s : List UInt8), j < k → texts[j]? = some s → s.length ≤ 400)
      case atStart => exact ⟨0, n + text.length + nums.length + texts.length, rfl, rfl, Nat.zero_le _, rfl, by simp, by omega, Hb.out.drew, fun j s hj => absurd hj (by omega)⟩
      case round =>
        obtain ⟨k, m, rfl, rfl, hk, rfl, hmm, hm1, hb2, hsm2⟩ := hrel
        have hm0 : 0 ≤ m := by omega
        have Hmm := Lib.hid hmm
        clear hmm
        have Hb2 := Lib.hid hb2
        have Hsm2 := Lib.hid hsm2
        have e4 : wr.cell? ⟨b, off + i * 5 + 4, none⟩ = some (.slice At texts.length ct) := by
          have := (Hca.out.of_block hb2.size (hb2.block _ Hca.out.1 (by simp))).2 _ _ Hc4.out
          rw [← Nat.add_assoc] at this
          exact this
        clear hb2 hsm2
        by_cases hk2 : k < texts.length
        · obtain ⟨bt, ot, rfl, _, hct⟩ := HAt.out (by omega)
          obtain ⟨s, hs⟩ : ∃ s, texts[k]? = some s := ⟨_, List.getElem?_eq_getElem hk2⟩
          have e5 : wr.cell? ⟨bt, ot + k, none⟩ = some (.string ⟨s.toArray⟩) := (hct.of_block Hb2.out.size (Hb2.out.block _ hct.1 (by simp))).2 k (bsv s) (by rw [List.getElem?_map, hs]; rfl)
          have Hns := Lib.hid (sum_take List.length texts k s hs)
          have Hms := Lib.hid (List.mem_of_getElem? hs)
          have hss := size_l s
          have Hs := Lib.hid (show ∀ s', texts[k]? = some s' → s' = s from fun s' h' => Option.some.inj (h'.symm.trans hs))
          clear hct hs
          by_cases hs4 : (400 : Int) < s.length
          · go_wp2
            go_ret
            exact ⟨few_no HRr.out (fun h => by have : s.length ≤ 400 := (h.2.1 _ Hmem.out).each s Hms.out; omega), Hb2.out⟩
          · have hds : decide ((400 : Int) < (s.length : Int)) = false := decide_eq_false hs4
            have hwm : IntKind.i64.wrap (m + (s.length : Int)) = m + s.length := by rw [IntKind.wrap_i64]; omega
            go_wp2
            go_roundg (texts.length - (k + 1))
            case measure => omega
            case rel => exact ⟨k + 1, m + s.length, by go_num, rfl, by omega, rfl, by rw [Hns.out, Hmm.out]; omega, by omega, Hb2.out, fun j s' hj hs' => by
              rcases Nat.lt_or_ge j k with h1 | h1
              · exact Hsm2.out j s' h1 hs'
              · have e : j = k := by omega
                subst e
                rw [Hs.out s' hs']
                omega⟩
        · have hkk : k = texts.length := by omega
          subst hkk
          go_wp2
          go_roundg (ts.length - (i + 1))
          case measure => omega
          case rel => exact ⟨i + 1, m, by go_num, rfl, by omega, rfl, by
            rw [Hnx.out, Hmm.out, List.take_length, Hnn.out]
            unfold size01
            simp only
            omega, by omega, Hb2.out, fun j t' hj ht' => by
            rcases Nat.lt_or_ge j i with h1 | h1
            · exact Hsm.out j t' h1 ht'
            · have e : j = i := by omega
              subst e
              rw [Hsp.out t' ht']
              exact ⟨by show text.length ≤ 400; omega, by show nums.length ≤ 400; omega, by show texts.length ≤ 400; omega, fun s hs => by
                obtain ⟨q, hq, rfl⟩ := List.mem_iff_getElem.1 hs
                exact Hsm2.out q _ hq (List.getElem?_eq_getElem hq)⟩⟩
    · have hii : i = ts.length := by omega
      subst hii
      go_wp2
      go_ret
      have hsm' : ∀ t, t ∈ ts → t.1.Small := fun t ht => by
        obtain ⟨j, hj, rfl⟩ := List.mem_iff_getElem.1 ht
        exact Hsm.out j _ hj (List.getElem?_eq_getElem hj)
      have hnt := Hnn.out
      rw [List.take_length] at hnt
      refine ⟨congrArg (fun b => Ending.returned (.bool b)) ?_, Hb.out⟩
      have hr := HRr.out
      cases r with
      | true => exact decide_eq_true (by have := (hr.1 rfl).2.2; unfold total01 at this; omega)
      | false => exact decide_eq_false (fun h => by
          have := hr.2 ⟨hl20, hsm', by unfold total01; omega⟩
          cases this)

end Go.Proofs.YthajdajhclpaaaaDoor
