/- The walk of RetainFull. -/
import Derived.Test.YtkpmfbcepkpnpaaSmall
namespace Go.Proofs.Ytkpmfbcepkpnpaa
open Go.RowKit Go.Shelf

theorem fit_snoc {es : List (Ev × Value)} (h : Fit es) (e : Ev) (y : Value) (h0 : 0 ≤ e.time) (h1 : e.time ≤ 1099511627776) : Fit (es ++ [(e, y)]) := fun p hp => by
  rcases List.mem_append.1 hp with hp | hp
  · exact h p hp
  · have : p = (e, y) := by simpa using hp
    subst this
    exact ⟨h0, h1⟩
theorem fit_drop {es : List (Ev × Value)} (h : Fit es) (k : Nat) : Fit (es.drop k) := fun p hp => h p (List.mem_of_mem_drop hp)

set_option maxRecDepth 100000 in
theorem full_out (n d : Int) (w : World) (h : n < 0 ∨ n > 2100 ∨ d < 0 ∨ d > 2100) :
    Calls Try.prog 5 #[.int .i64 n, .int .i64 d] w fun e w' => e = .returned (.bool true) ∧ Fr [] w w' := by
  have hsm := Lib.hid (small_any w)
  rcases (show n < 0 ∨ (¬ n < 0 ∧ n > 2100) ∨ (¬ n < 0 ∧ ¬ n > 2100 ∧ d < 0) ∨ (¬ n < 0 ∧ ¬ n > 2100 ∧ ¬ d < 0 ∧ d > 2100) by omega) with h1 | ⟨h1, h2⟩ | ⟨h1, h2, h3⟩ | ⟨h1, h2, h3, h4⟩
  all_goals
    clear h
    go_enter Try.func5, Try.ntmps5
    go_wp2_with (go_at_call 6; refine hsm.out.mono ?_; rintro e w0 ⟨rfl, hf⟩; have Hf := Lib.hid hf; clear hf)
    go_ret
    exact ⟨rfl, Hf.out⟩

theorem right1 (p : Int) (t : Int) (h0 : 0 ≤ t) (h1 : t ≤ 1099511627776) : rightE p p ⟨#[]⟩ 0 t = true := by
  unfold rightE
  exact decide_eq_true ⟨rfl, by decide, by omega, h0, h1⟩

set_option maxRecDepth 100000 in
set_option maxHeartbeats 4000000 in
theorem full_main (N D : Nat) (w : World) (hN : N ≤ 2100) (hD : D ≤ 2100) :
    Calls Try.prog 5 #[.int .i64 N, .int .i64 D] w fun e w' => e = .returned (.bool true) ∧ Fr [] w w' := by
  have hsm := Lib.hid (small_any w)
  have hd1 : decide ((N : Int) < 0) = false := by simp
  have hd2 : decide ((2100 : Int) < (N : Int)) = false := by simp; omega
  have hd3 : decide ((D : Int) < 0) = false := by simp
  have hd4 : decide ((2100 : Int) < (D : Int)) = false := by simp; omega
  go_enter Try.func5, Try.ntmps5
  go_wp2_with fail
  refine hsm.out.mono ?_
  rintro e w0 ⟨rfl, hf0⟩
  have Hf0 := Lib.hid hf0
  clear hf0
  go_wp2_with fail
  refine (new_any 1 w0 w.heap.size [] Hf0.out.size).mono ?_
  rintro e w1 ⟨a, rfl, ha, hst, hf⟩
  have Hst := Lib.hid hst
  have Hf1 := Lib.hid (Hf0.out.trans hf)
  clear hst hf
  go_wp2
  go_loopw [7] (fun iv wr => ∃ (k : Nat) (v : Value) (es : List (Ev × Value)), iv = .int .i64 k ∧ k ≤ N ∧ St w.heap.size [] wr a 1 0 0 v es ∧ es.length = min k 2000 ∧ Fit es ∧ Fr [] w wr) (fun iv _ => N - (intOf iv).toNat)
  case atStart => exact ⟨0, _, [], rfl, Nat.zero_le _, Hst.out, by simp, (fun p hp => by cases hp), Hf1.out⟩
  case round =>
    obtain ⟨k, v, es, rfl, hk, hst, hlen, hfit, hf⟩ := hrel
    have Hst := Lib.hid hst
    have Hlen := Lib.hid hlen
    have Hfit := Lib.hid hfit
    have Hf := Lib.hid hf
    clear hst hlen hfit hf Hf1 Hf0 hsm
    by_cases hlt : k < N
    · have hlt' : (k : Int) < (N : Int) := by omega
      by_cases hr : k < 2000
      · have g1 : (k : Int) < 2000 := by omega
        have g2 : ¬ (2000 : Int) < (k : Int) := by omega
        go_wp2_with fail
        refine (add_ok Hst.out (by omega) (by omega) (fun k hk => by cases hk) Hf.out.size 1 k ⟨#[]⟩ 0 k [] (.slice none 0 0) (RV.nil _ [] _) (right1 1 k (by omega) (by omega)) (by decide) (by rw [Hlen.out]; omega) (by rw [Hlen.out]; omega)).mono ?_
        rintro e w2 ⟨rfl, v2, y, hst2, hf2, _⟩
        have Hst2 := Lib.hid hst2
        have Hf2 := Lib.hid (frIn Hf.out hf2 (fun i hi => (Hst.out.fp_ge i hi).1))
        clear hst2 hf2
        go_wp2
        go_roundw
        case rel => exact ⟨k + 1, v2, _, by go_num, by omega, Hst2.out, by rw [List.length_append, Hlen.out]; simp; omega, fit_snoc Hfit.out _ _ (by simp) (by simp; omega), Hf2.out⟩
        case measure => simp [intOf]; omega
      · have g1 : ¬ (k : Int) < 2000 := by omega
        have hl2 : es.length = 2000 := by rw [Hlen.out]; omega
        have Hl2 := Lib.hid hl2
        have hadd : addE 1 0 es.length ⟨1, 2000, ⟨#[]⟩, 0, k, []⟩ = 6 := by
          have h1 := right1 1 k (by omega) (by omega)
          have h2 : rightRow [] = true := by decide
          unfold addE
          simp only [h1, h2, hl2]
          simp
        have hno := add_no Hst.out (by omega) (by omega) (by rw [hl2]; decide) ⟨1, 2000, ⟨#[]⟩, 0, k, []⟩ (.slice none 0 0) (RV.nil _ [] _) (by rw [hadd]; decide)
        rw [hadd] at hno
        have Hno := Lib.hid hno
        clear hno hadd hl2
        by_cases hr2 : k = 2000
        · subst hr2
          go_wp2_with fail
          refine Hno.out.mono ?_
          rintro e w2 ⟨rfl, hf2⟩
          have Hst2 := Lib.hid (Hst.out.quiet hf2)
          have Hf2 := Lib.hid (Hf.out.trans hf2)
          clear hf2
          go_wp2
          go_roundw
          case rel => exact ⟨2000 + 1, v, es, by go_num, by omega, Hst2.out, by rw [Hl2.out]; rfl, Hfit.out, Hf2.out⟩
          case measure => simp [intOf]; omega
        · have g2 : (2000 : Int) < (k : Int) := by omega
          go_wp2_with fail
          refine Hno.out.mono ?_
          rintro e w2 ⟨rfl, hf2⟩
          have Hst2 := Lib.hid (Hst.out.quiet hf2)
          have Hf2 := Lib.hid (Hf.out.trans hf2)
          clear hf2
          go_wp2
          go_roundw
          case rel => exact ⟨k + 1, v, es, by go_num, by omega, Hst2.out, by rw [Hl2.out]; omega, Hfit.out, Hf2.out⟩
          case measure => simp [intOf]; omega
    · have hkN : k = N := by omega
      subst hkN
      obtain ⟨C, hC⟩ : ∃ C : Nat, C = min k 2000 := ⟨_, rfl⟩
      have hcm : (if (2000 : Int) < (k : Int) then 2000 else (k : Int)) = (C : Int) := by split <;> omega
      have hl : es.length = C := by rw [Hlen.out, hC]
      have hCb : C ≤ 2000 := by omega
      obtain ⟨G, hG⟩ : ∃ G : Nat, G = min D C := ⟨_, rfl⟩
      have hpl : plc 0 es.length D = G := by
        rw [hl, hG]
        unfold plc
        split
        · simp; omega
        · split <;> simp <;> omega
      have hdr := drop_any Hst.out Hfit.out (by omega) (by omega) (by rw [hl]; omega) (D : Int) Hf.out.size
      rw [hpl] at hdr
      have hgm : (if C < D then (C : Int) else (D : Int)) = (G : Int) := by split <;> omega
      have hGC : G ≤ C := by omega
      have Hdr := Lib.hid hdr
      have Hl := Lib.hid hl
      have Hgm := Lib.hid hgm
      have hcb2 : (C : Int) ≤ 2000 := by omega
      have hgc2 : (G : Int) ≤ (C : Int) := by omega
      have hsum : IntKind.i64.wrap ((C : Int) + (G : Int)) = (C : Int) + G := by rw [IntKind.wrap_i64]; omega
      have Hlt : Hid (∀ i, i < k → True) := fun _ _ => trivial
      clear hC hl hG hpl hdr hlt hgm
      go_wp2_with fail
      refine Hdr.out.mono ?_
      rintro e w2 ⟨rfl, v2, hst2, hf2, _⟩
      rw [Int.zero_add] at hst2
      generalize hz 0 (es.take G) = ho at *
      have hl2 : (es.drop G).length = C - G := by rw [List.length_drop, Hl.out]
      have Hst2 := Lib.hid hst2
      have Hf2 := Lib.hid (frIn Hf.out hf2 (fun i hi => (Hst.out.fp_ge i hi).1))
      have Hfit2 := Lib.hid (fit_drop Hfit.out G)
      generalize es.drop G = es2 at *
      have Hl2 := Lib.hid hl2
      have hgm := Hgm.out
      clear hst2 hf2 hl2 hcm
      go_wp2
      go_loopw [11] (fun iv wr => ∃ (j : Nat) (v : Value) (es : List (Ev × Value)), iv = .int .i64 j ∧ C ≤ j ∧ j ≤ C + G ∧ St w.heap.size [] wr a 1 G ho v es ∧ es.length = j - G ∧ Fr [] w wr) (fun iv _ => C + G - (intOf iv).toNat)
      case atStart => exact ⟨C, v2, es2, rfl, Nat.le_refl _, by omega, Hst2.out, Hl2.out, Hf2.out⟩
      case round =>
        obtain ⟨j, v3, es3, rfl, hj0, hj1, hst3, hl3, hf3⟩ := hrel
        have Hst3 := Lib.hid hst3
        have Hl3 := Lib.hid hl3
        have Hf3 := Lib.hid hf3
        clear hst3 hl3 hf3 Hst2 Hf2 Hl2 Hst Hf Hdr
        by_cases hjl : j < C + G
        · have hjl' : (j : Int) < (C : Int) + (G : Int) := by omega
          go_wp2_with fail
          refine (add_ok Hst3.out (by omega) (by omega) (fun k hk => by cases hk) Hf3.out.size 1 j ⟨#[]⟩ 0 0 [] (.slice none 0 0) (RV.nil _ [] _) (right1 1 0 (by omega) (by omega)) (by decide) (by rw [Hl3.out]; omega) (by rw [Hl3.out]; omega)).mono ?_
          rintro e w4 ⟨rfl, v4, y, hst4, hf4, _⟩
          have Hst4 := Lib.hid hst4
          have Hf4 := Lib.hid (frIn Hf3.out hf4 (fun i hi => (Hst3.out.fp_ge i hi).1))
          clear hst4 hf4
          go_wp2
          go_roundw
          case rel => exact ⟨j + 1, v4, _, by go_num, by omega, by omega, Hst4.out, by rw [List.length_append, Hl3.out]; simp; omega, Hf4.out⟩
          case measure => simp [intOf]; omega
        · have hjC : j = C + G := by omega
          have hlC : es3.length = C := by rw [Hl3.out]; omega
          have hjl' : ¬ (j : Int) < (C : Int) + (G : Int) := by omega
          have HlC := Lib.hid hlC
          have Hfirst := fun W hf => Lib.hid (first_any (w := W) (Hst3.out.quiet hf))
          clear hlC hgm
          have hrr : rightRow [] = true := by decide
          by_cases hfull : C = 2000
          · subst hfull
            have hadd : addE 1 G es3.length ⟨1, ((2000 : Nat) : Int) + G, ⟨#[]⟩, 0, 0, []⟩ = 6 := by
              have h1 := right1 1 0 (by omega) (by omega)
              unfold addE
              simp only [h1, hrr, HlC.out]
              rw [if_neg (by simp), if_neg (by simp), if_neg (by omega), if_pos (by omega)]
            have hno := add_no Hst3.out (by omega) (by omega) (by rw [HlC.out]; decide) ⟨1, ((2000 : Nat) : Int) + G, ⟨#[]⟩, 0, 0, []⟩ (.slice none 0 0) (RV.nil _ [] _) (by rw [hadd]; decide)
            rw [hadd] at hno
            have Hno := Lib.hid hno
            clear hno hadd
            go_wp2_with fail
            refine Hno.out.mono ?_
            rintro e w4 ⟨rfl, hf4⟩
            have Hst4 := Lib.hid (Hst3.out.quiet hf4)
            have Hf4 := Lib.hid (Hf3.out.trans hf4)
            clear hf4
            go_wp2_with (go_at_call 13; refine (first_any Hst4.out).mono ?_; rintro e w5 ⟨rfl, rfl⟩)
            go_ret
            exact ⟨ret_bool (by simp), Hf4.out⟩
          · have hcne : ((C : Int) == 2000) = false := beq_eq_false_iff_ne.2 (by omega)
            go_wp2_with fail
            refine (add_ok Hst3.out (by omega) (by omega) (fun k hk => by cases hk) Hf3.out.size 1 ((C : Int) + G) ⟨#[]⟩ 0 0 [] (.slice none 0 0) (RV.nil _ [] _) (right1 1 0 (by omega) (by omega)) (by decide) (by rw [HlC.out]; omega) (by rw [HlC.out]; omega)).mono ?_
            rintro e w4 ⟨rfl, v4, y, hst4, hf4, _⟩
            have Hst4 := Lib.hid hst4
            have Hf4 := Lib.hid (frIn Hf3.out hf4 (fun i hi => (Hst3.out.fp_ge i hi).1))
            clear hst4 hf4
            go_wp2_with (go_at_call 13; refine (first_any Hst4.out).mono ?_; rintro e w5 ⟨rfl, rfl⟩)
            go_ret
            exact ⟨ret_bool (by simp), Hf4.out⟩

end Go.Proofs.Ytkpmfbcepkpnpaa
