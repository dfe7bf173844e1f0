/- The reference of layer 1: digits, Num, Int, Text. -/
import Derived.Test.YthajdajhclpaaaaDoorWireW
import Derived.Laws.IdiomStrings
namespace Go.Proofs.YthajdajhclpaaaaDoor
open Go.RowKit Go.Shelf Wr

/-- string([]byte{c}): the block is new. -/
theorem one_str (w : World) (c : UInt8) (n : Int) (hn : n = (c.toNat : Int)) : (convert 97 9 (.slice (some ⟨w.heap.size, 0, none⟩) 1 1)).run Tryd.prog (w.alloc (.cells #[.int .u8 n] 5)) = .ok (.string ⟨#[c]⟩) (w.alloc (.cells #[.int .u8 n] 5)) := by
  subst hn
  exact run_convert_bytes_back (P := Tryd.prog) (w.alloc (.cells #[.int .u8 (c.toNat : Int)] 5)) 97 9 5 ⟨w.heap.size, 0, none⟩ 1 [c] Tryd.underlying97 Tryd.underlying5 Tryd.underlying9 (fun j hj => by
    have hj0 : j = 0 := by simpa using hj
    subst hj0
    exact (Row.cell (row_new w 5 #[.int .u8 (c.toNat : Int)] _ rfl) 0))

set_option maxRecDepth 100000 in
theorem rdigits_any (k : Nat) : ∀ (u : Nat) (w : World), u ≤ k → u ≤ 9223372036854775808 → Calls Tryd.prog 63 #[.int .i64 (-(u : Int))] w fun e w' => e = .returned (.string ⟨(Lib.decDigits u).toArray⟩) ∧ Fr [] w w' := by
  induction k with
  | zero =>
    intro u w hk _
    have hu : u = 0 := by omega
    subst hu
    have hc := one_str w 48 48 (by decide)
    go_enter Tryd.func63, Tryd.ntmps63
    go_wp2_with fail
    go_ret
    exact ⟨ret_str (by simp [Lib.decDigits]), by (repeat' (first | with_reducible exact Fr.refl _ _ | with_reducible assumption | with_reducible apply Fr.drew | with_reducible apply Fr.drewN | with_reducible apply Fr.alloc | (with_reducible refine Fr.set ?_ (.inr (by first | exact Nat.le_refl _ | exact Nat.le_succ _ | (simp; done) | (simp; omega))) _)))⟩
  | succ k ih =>
    intro u w hk hb
    have IH := Lib.hid ih
    clear ih
    by_cases hu : u < 10
    · have hr : (-(u : Int)).tmod 10 = -(u : Int) := by
        rw [Int.neg_tmod, show ((u : Int).tmod 10) = ((u % 10 : Nat) : Int) from (Int.ofNat_tmod u 10).symm, Nat.mod_eq_of_lt hu]
      have hw : (48 : Int) - -(u : Int) = 48 + (u : Int) := by omega
      have hd := dig_nat u hu
      have he := dec_small hu
      generalize UInt8.ofNat (48 + u) = c at *
      have hc := one_str w c (48 + (u : Int)) (by omega)
      have Hd := Lib.hid hd
      have He := Lib.hid he
      clear hd he
      go_enter Tryd.func63, Tryd.ntmps63
      go_wp2_with fail
      go_ret
      exact ⟨ret_str (by rw [He.out]), by (repeat' (first | with_reducible exact Fr.refl _ _ | with_reducible assumption | with_reducible apply Fr.drew | with_reducible apply Fr.drewN | with_reducible apply Fr.alloc | (with_reducible refine Fr.set ?_ (.inr (by first | exact Nat.le_refl _ | exact Nat.le_succ _ | (simp; done) | (simp; omega))) _)))⟩
    · obtain ⟨d, hd0⟩ : ∃ d : Nat, d = u % 10 := ⟨_, rfl⟩
      obtain ⟨q, hq0⟩ : ∃ q : Nat, q = u / 10 := ⟨_, rfl⟩
      have hr : (-(u : Int)).tmod 10 = -(d : Int) := by
        rw [Int.neg_tmod, show ((u : Int).tmod 10) = ((u % 10 : Nat) : Int) from (Int.ofNat_tmod u 10).symm, hd0]
      have hq : (-(u : Int)).tdiv 10 = -(q : Int) := by
        rw [Int.neg_tdiv, show ((u : Int).tdiv 10) = ((u / 10 : Nat) : Int) from rfl, hq0]
      have hd10 : d < 10 := by omega
      have hqk : q ≤ k := by omega
      have hl := dec_len 18 q (by omega)
      have hqb : (q : Int) ≤ 922337203685477581 := by omega
      have hw : (48 : Int) - -(d : Int) = 48 + (d : Int) := by omega
      have hd := dig_nat d hd10
      have he := dec_big hu
      rw [← hd0, ← hq0] at he
      generalize UInt8.ofNat (48 + d) = c at *
      have hc := one_str w c (48 + (d : Int)) (by omega)
      have He := Lib.hid he
      clear hd he hd0 hq0
      go_enter Tryd.func63, Tryd.ntmps63
      go_wp2_with fail
      refine (IH.out q _ hqk (by omega)).mono ?_
      rintro e w1 ⟨rfl, hf⟩
      have Hf := Lib.hid hf
      clear hf
      go_wp2
      go_ret
      exact ⟨ret_str (by rw [He.out]; exact (mkb_app _ _).symm), ((Fr.refl [] w).alloc _).trans Hf.out⟩

theorem dig_str (u : Nat) : (⟨(Lib.decDigits u).toArray⟩ : ByteArray).size = (Lib.decDigits u).length := by rw [ByteArray.size_mk', List.size_toArray]
theorem xint_any (n : Int) (hn : I64 n) (w : World) : Calls Tryd.prog 16 #[.int .i64 n] w fun e w' => e = .returned (.string ⟨(encInt n).toArray⟩) ∧ Fr [] w w' := by
  obtain ⟨h0, h1⟩ := hn
  by_cases hc : n < 0
  · obtain ⟨u, hu⟩ : ∃ u : Nat, u = n.natAbs := ⟨_, rfl⟩
    have hnu : n = -(u : Int) := by omega
    subst hnu
    have he : encInt (-(u : Int)) = [45] ++ Lib.decDigits u ++ [59] := by
      unfold encInt Lib.itoa
      rw [if_pos hc, show (-(u : Int)).natAbs = u by omega]
      rfl
    have hl := dec_len 18 u (by omega)
    have He := Lib.hid he
    have Hd := Lib.hid (rdigits_any u u w (Nat.le_refl _) (by omega))
    clear he hu
    go_enter Tryd.func16, Tryd.ntmps16
    go_wp2_with fail
    refine Hd.out.mono ?_
    rintro e w1 ⟨rfl, hf⟩
    have Hf := Lib.hid hf
    clear hf
    go_wp2
    go_ret
    exact ⟨ret_str (by rw [He.out, mkb_app, mkb_app]), Hf.out⟩
  · obtain ⟨u, hu⟩ : ∃ u : Nat, u = n.toNat := ⟨_, rfl⟩
    have hnu : n = (u : Int) := by omega
    subst hnu
    have he : encInt (u : Int) = Lib.decDigits u ++ [59] := by
      unfold encInt Lib.itoa
      rw [if_neg hc, Int.toNat_natCast]
    have hl := dec_len 18 u (by omega)
    have hub : (u : Int) ≤ 9223372036854775807 := h1
    have He := Lib.hid he
    have hc' : decide ((u : Int) < 0) = false := decide_eq_false hc
    have Hd := Lib.hid (rdigits_any u u w (Nat.le_refl _) (by omega))
    clear he hu
    go_enter Tryd.func16, Tryd.ntmps16
    go_wp2_with fail
    refine Hd.out.mono ?_
    rintro e w1 ⟨rfl, hf⟩
    have Hf := Lib.hid hf
    clear hf
    go_wp2
    go_ret
    exact ⟨ret_str (by rw [He.out, mkb_app]), Hf.out⟩
theorem xnum_any (n : Int) (hn : I64 n) (w : World) : Calls Tryd.prog 14 #[.int .i64 n] w fun e w' => e = .returned (.string ⟨(if n < 0 then [] else encInt n).toArray⟩) ∧ Fr [] w w' := by
  have Hn := Lib.hid hn
  clear hn
  by_cases hc : n < 0
  · rw [if_pos hc]
    go_enter Tryd.func14, Tryd.ntmps14
    go_wp2
    go_ret
    exact ⟨rfl, Fr.refl _ _⟩
  · rw [if_neg hc]
    have hc' : decide (n < 0) = false := decide_eq_false hc
    go_enter Tryd.func14, Tryd.ntmps14
    go_wp2_with fail
    refine (xint_any n Hn.out _).mono ?_
    rintro e w1 ⟨rfl, hf⟩
    have Hf := Lib.hid hf
    clear hf
    go_wp2
    go_ret
    exact ⟨rfl, Hf.out⟩
theorem xtext_any (s : ByteArray) (hs : s.size ≤ 1099511627776) (w : World) : Calls Tryd.prog 18 #[.string s] w fun e w' => e = .returned (.string ⟨(encText s.data.toList).toArray⟩) ∧ Fr [] w w' := by
  have he : (⟨(encText s.data.toList).toArray⟩ : ByteArray) = ⟨(Lib.decDigits s.size).toArray⟩ ++ ⟨#[58]⟩ ++ s ++ ⟨#[44]⟩ := by
    unfold encText Lib.itoa
    rw [if_neg (by omega), Int.toNat_natCast, mkb_app, mkb_app, mkb_app]
    rw [show s.data.toList.length = s.size by rfl]
  have hl := dec_len 18 s.size (by omega)
  have He := Lib.hid he
  have Hd := Lib.hid (rdigits_any s.size s.size w (Nat.le_refl _) (by omega))
  clear he
  go_enter Tryd.func18, Tryd.ntmps18
  go_wp2_with fail
  refine Hd.out.mono ?_
  rintro e w1 ⟨rfl, hf⟩
  have Hf := Lib.hid hf
  clear hf
  go_wp2
  go_ret
  exact ⟨ret_str He.out.symm, Hf.out⟩

end Go.Proofs.YthajdajhclpaaaaDoor
