/- The reference's comparing, at equal rows. -/
import Derived.Test.YtkpmfbcepkpnpaaRow2
import Derived.StillTailTactics
namespace Go.Proofs.Ytkpmfbcepkpnpaa
open Go.RowKit Go.Shelf

theorem less_self (l : List UInt8) : Op.bytesLess l l = false := by
  induction l with
  | nil => rfl
  | cons x l ih => simp [Op.bytesLess, ih]
theorem lss_self (s : ByteArray) (w : World) : (binOp .lss 9 (.string s) (.string s)).run Try.prog w = .ok (.bool false) w := by
  rw [binOp_string_lss, less_self]; rfl
theorem gtr_self (s : ByteArray) (w : World) : (binOp .gtr 9 (.string s) (.string s)).run Try.prog w = .ok (.bool false) w := by
  simp [binOp, Op.stringOp, less_self]

theorem cmp_same (k n : Int) (s : ByteArray) (w : World) : Calls Try.prog 36 #[.agg #[.int .i64 k, .int .i64 n, .string s], .agg #[.int .i64 k, .int .i64 n, .string s]] w fun e w' => e = .returned (.int .i64 0) ∧ Fr [] w w' := by
  have q3 := less_self s.toList
  have q1 := fun w => lss_self s w
  have q2 := fun w => gtr_self s w
  have d1 : ¬ k < k := by omega
  have d2 : ¬ n < n := by omega
  go_enter Try.func36, Try.ntmps36
  go_wp2
  all_goals (first | (exfalso; omega) | skip)
  go_ret
  exact ⟨rfl, by (repeat' (first | with_reducible exact Fr.refl _ _ | with_reducible assumption | with_reducible apply Fr.drew | with_reducible apply Fr.drewN | with_reducible apply Fr.alloc | (with_reducible refine Fr.set ?_ (.inr (by first | exact Nat.le_refl _ | exact Nat.le_succ _ | (simp; done) | (simp; omega))) _)))⟩

set_option maxHeartbeats 1000000 in
theorem cmpRows_same {B B' : Nat} {X X' : List Nat} {w : World} {v v' : Value} {row : List Vl} (h : RV B X w v row) (h' : RV B' X' w v' row) : Calls Try.prog 32 #[v, v'] w fun e w' => e = .returned (.int .i64 0) ∧ Fr [] w w' := by
  obtain ⟨A, c, rfl, hl, hA⟩ := h
  obtain ⟨A', c', rfl, _, hA'⟩ := h'
  have HA := Lib.hid hA
  have HA' := Lib.hid hA'
  have hmx : row.length ≤ 9223372036854775807 := Nat.le_trans hl (by decide)
  clear hA hA' hl
  go_enter Try.func32, Try.ntmps32
  go_wp2
  go_loopw [5, 6] (fun iv _ wr => ∃ k : Nat, iv = .int .i64 k ∧ k ≤ row.length ∧ Fr [] w wr) (fun iv _ _ => row.length - (intOf iv).toNat)
  case atStart => exact ⟨0, rfl, by omega, Fr.refl _ _⟩
  case round =>
    obtain ⟨k, rfl, hk, hb⟩ := hrel
    have Hb := Lib.hid hb
    clear hb
    by_cases hlt : k < row.length
    · obtain ⟨b, off, rfl, hca, _⟩ := HA.out (by omega)
      obtain ⟨b', off', rfl, hca', _⟩ := HA'.out (by omega)
      obtain ⟨x, hx⟩ : ∃ x, row[k]? = some x := ⟨_, List.getElem?_eq_getElem hlt⟩
      obtain ⟨v0, v1, v2⟩ := vcells_at row k x hx
      have hcw := hca.of_block Hb.out.size (Hb.out.block _ hca.1 (by simp))
      have hcw' := hca'.of_block Hb.out.size (Hb.out.block _ hca'.1 (by simp))
      have c0 := hcw.2 _ _ v0
      have c1 := hcw.2 _ _ v1
      have c2 := hcw.2 _ _ v2
      have e0 := hcw'.2 _ _ v0
      have e1 := hcw'.2 _ _ v1
      have e2 := hcw'.2 _ _ v2
      rw [← Nat.add_assoc] at c1 c2 e1 e2
      clear v0 v1 v2 hca hcw hca' hcw' hx
      obtain ⟨xk, xn, xs⟩ := x
      simp only at c0 c1 c2 e0 e1 e2
      go_wp2_with fail
      go_still_tail 8, (by kernel_rfl)
      change wpList _ _ _ _ _ wr.drew
      go_wp2_with (go_at_call 36; refine (cmp_same _ _ _ _).mono ?_; rintro e w1 ⟨rfl, hf⟩; have Hf := Lib.hid hf; clear hf)
      go_roundw
      case rel => exact ⟨k + 1, by go_num, by omega, Hb.out.drew.trans Hf.out⟩
      case measure => simp [intOf]; omega
    · have hkk : k = row.length := by omega
      subst hkk
      have hd : decide ((row.length : Int) < (row.length : Int)) = false := by simp
      go_wp2
      go_ret
      exact ⟨rfl, Hb.out⟩

theorem same03 {B B' : Nat} {X X' : List Nat} {w : World} {v v' : Value} {row : List Vl} (h : RV B X w v row) (h' : RV B' X' w v' row) : Calls Try.prog 20 #[v, v'] w fun e w' => e = .returned (.bool true) ∧ Fr [] w w' := by
  have hcon := Lib.hid (cmpRows_same h h')
  clear h h'
  go_enter Try.func20, Try.ntmps20
  go_wp2_with (go_at_call 32; refine hcon.out.mono ?_; rintro e w1 ⟨rfl, hf⟩; have Hf := Lib.hid hf; clear hf)
  go_ret
  exact ⟨rfl, Hf.out⟩

end Go.Proofs.Ytkpmfbcepkpnpaa
