/- Plain words for the reference of layer 1: its numerals and its reading of them. No program here. -/
import Derived.Test.YthajdajhclpaaaaDoorWireRd
namespace Go.Proofs.YthajdajhclpaaaaDoor.Wr
open Go

/-- An int after wrapping. -/
def wr64 (x : Int) : Int := (x + 9223372036854775808) % 18446744073709551616 - 9223372036854775808
theorem wr64_range (x : Int) : I64 (wr64 x) := by unfold wr64 I64; omega
theorem wr64_in (x : Int) (h : I64 x) : wr64 x = x := by unfold wr64; unfold I64 at h; omega
/-- One digit more, as a negative number. -/
def bkStep (n : Int) (c : UInt8) : Int := wr64 (wr64 (10 * n) - ((c.toNat : Int) - 48))
theorem bk_dec (u : Nat) (h : u ≤ 9223372036854775808) : (Lib.decDigits u).foldl bkStep 0 = -(u : Int) := by
  induction u using Nat.strongRecOn with
  | _ u ih =>
    by_cases hu : u < 10
    · rw [dec_small hu]
      simp only [List.foldl_cons, List.foldl_nil, bkStep]
      rw [dig_nat u hu, wr64_in (10 * 0) (by unfold I64; omega), wr64_in _ (by unfold I64; omega)]
      omega
    · rw [dec_big hu, List.foldl_append, ih (u / 10) (by omega) (by omega)]
      simp only [List.foldl_cons, List.foldl_nil, bkStep]
      rw [dig_nat _ (by omega), wr64_in (10 * -((u / 10 : Nat) : Int)) (by unfold I64; omega), wr64_in _ (by unfold I64; omega)]
      omega
/-- A numeral of an int that a string is. -/
def IsNum (l : List UInt8) (n : Int) : Prop := I64 n ∧ l = Lib.itoa n
theorem isNum_unique {l : List UInt8} {n m : Int} (h : IsNum l n) (k : IsNum l m) : n = m := itoa_inj n m h.1.1 h.1.2 k.1.1 k.1.2 (h.2.symm.trans k.2)
/-- What the reference's ahead finds: the place of the byte, where it looks. -/
theorem numR_at (e : UInt8) (he : Ends e) (l r : List UInt8) (i : Nat) (h : l = l.take i ++ e :: r) (hn : e ∉ l.take i) (hil : i < l.length) (least : Int) :
    (∀ n, IsNum (l.take i) n → least ≤ n → numR e least l = some (n, r)) ∧ (∀ n, IsNum (l.take i) n → n < least → numR e least l = none) ∧ ((∀ n, ¬ IsNum (l.take i) n) → numR e least l = none) := by
  have hlen : (l.take i).length = i := by rw [List.length_take]; omega
  refine ⟨fun n hn' hl => ?_, fun n hn' hl => ?_, fun hno => ?_⟩
  · rw [h, hn'.2]
    exact numR_enc e he least n hn'.1 hl r
  · cases hr : numR e least l with
    | none => rfl
    | some p =>
      obtain ⟨h1, h2, h3⟩ := numR_dec e least p.1 l p.2 hr
      have h4 : IsNum (l.take i) p.1 := by
        refine ⟨h3, ?_⟩
        have hx := ends_not e he p.1
        exact split_eq e _ _ _ _ hn hx (h.symm.trans h1)
      have := isNum_unique hn' h4
      omega
  · cases hr : numR e least l with
    | none => rfl
    | some p =>
      obtain ⟨h1, h2, h3⟩ := numR_dec e least p.1 l p.2 hr
      exact absurd ⟨h3, split_eq e _ _ _ _ hn (ends_not e he p.1) (h.symm.trans h1)⟩ (hno p.1)
where
  split_eq (e : UInt8) : ∀ (a b x y : List UInt8), e ∉ a → e ∉ b → a ++ e :: x = b ++ e :: y → a = b
    | [], [], _, _, _, _, _ => rfl
    | [], c :: b, _, _, _, hb, h => by
      injection h with h1 _
      exact absurd (by simp [h1]) hb
    | c :: a, [], _, _, ha, _, h => by
      injection h with h1 _
      exact absurd (by simp [h1]) ha
    | c :: a, d :: b, x, y, ha, hb, h => by
      injection h with h1 h2
      rw [h1, split_eq e a b x y (fun h => ha (by simp [h])) (fun h => hb (by simp [h])) h2]
/-- Where the byte does not stand among the first 21, or stands nowhere, nothing is read. -/
theorem numR_absent (e : UInt8) (least : Int) (l : List UInt8) (h : ∀ i, i < 21 → l[i]? ≠ some e) : numR e least l = none := by
  cases hr : numR e least l with
  | none => rfl
  | some p =>
    obtain ⟨h1, h2, h3⟩ := numR_dec e least p.1 l p.2 hr
    have hlen := itoa_len p.1 h3.1 h3.2
    refine absurd ?_ (h (Lib.itoa p.1).length (by omega))
    rw [h1, List.getElem?_append_right (Nat.le_refl _)]
    simp

end Go.Proofs.YthajdajhclpaaaaDoor.Wr
