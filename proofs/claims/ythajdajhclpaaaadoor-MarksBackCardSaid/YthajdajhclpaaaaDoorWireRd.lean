/- Plain words for layer 1: the encodings, and what a reader makes of bytes. No program here. -/
import Derived.Test.YthajdajhclpaaaaDoorWirePl
import Derived.Lib.AtoiAllCases
namespace Go.Proofs.YthajdajhclpaaaaDoor.Wr
open Go

/-! ### The encodings -/
def encInt (n : Int) : List UInt8 := Lib.itoa n ++ [59]
def encText (s : List UInt8) : List UInt8 := Lib.itoa s.length ++ [58] ++ s ++ [44]
def encList (xs : List (List UInt8)) : List UInt8 := Lib.itoa xs.length ++ [91] ++ xs.flatten ++ [93]
def encNums (l : List Int) : List UInt8 := encList (l.map encInt)
def encTexts (l : List (List UInt8)) : List UInt8 := encList (l.map encText)

/-- An int as a machine has it. -/
def I64 (n : Int) : Prop := -9223372036854775808 ≤ n ∧ n ≤ 9223372036854775807

/-! ### A reader: what is left, and whether it has failed -/
abbrev Rd := List UInt8 × Bool
def dead : Rd := ([], true)
/-- A number and the byte behind it. -/
def numR (e : UInt8) (least : Int) (l : List UInt8) : Option (Int × List UInt8) :=
  if Lib.indexByte (l.take 21) e < 0 then none
  else match Lib.atoiAll (l.take (Lib.indexByte (l.take 21) e).toNat) with
    | .ok n => if Lib.itoa n = l.take (Lib.indexByte (l.take 21) e).toNat ∧ least ≤ n then some (n, l.drop ((Lib.indexByte (l.take 21) e).toNat + 1)) else none
    | _ => none
def rnum (e : UInt8) (least : Int) (s : Rd) : Int × Rd := match numR e least s.1 with
  | some (n, r) => (n, (r, s.2))
  | none => (0, dead)
def rclose (e : UInt8) (s : Rd) : Rd := match s.1 with
  | c :: r => if c = e then (r, s.2) else dead
  | [] => dead
def rtext (s : Rd) : List UInt8 × Rd :=
  if ((rnum 58 0 s).2.1.length : Int) < (rnum 58 0 s).1 then ([], dead)
  else if (rclose 44 ((rnum 58 0 s).2.1.drop (rnum 58 0 s).1.toNat, (rnum 58 0 s).2.2)).2 = true then ([], rclose 44 ((rnum 58 0 s).2.1.drop (rnum 58 0 s).1.toNat, (rnum 58 0 s).2.2))
  else ((rnum 58 0 s).2.1.take (rnum 58 0 s).1.toNat, rclose 44 ((rnum 58 0 s).2.1.drop (rnum 58 0 s).1.toNat, (rnum 58 0 s).2.2))
def rint (s : Rd) : Int × Rd := rnum 59 (-9223372036854775808) s
def rnat (s : Rd) : Int × Rd := rnum 59 0 s
/-- n times, as long as nothing failed. -/
def ritems {α : Type} (one : Rd → α × Rd) : Nat → Rd → List α × Rd
  | 0, s => ([], s)
  | n + 1, s => if s.2 = true then ([], s) else ((one s).1 :: (ritems one n (one s).2).1, (ritems one n (one s).2).2)
def rlist {α : Type} (one : Rd → α × Rd) (s : Rd) : List α × Rd :=
  if (rclose 93 (ritems one (rnum 91 0 s).1.toNat (rnum 91 0 s).2).2).2 = true then ([], rclose 93 (ritems one (rnum 91 0 s).1.toNat (rnum 91 0 s).2).2)
  else ((ritems one (rnum 91 0 s).1.toNat (rnum 91 0 s).2).1, rclose 93 (ritems one (rnum 91 0 s).1.toNat (rnum 91 0 s).2).2)

/-! ### Numbers -/
theorem index_ge (l : List UInt8) (e : UInt8) : -1 ≤ Lib.indexByte l e := by
  induction l with
  | nil => simp [Lib.indexByte]
  | cons c l ih =>
    simp only [Lib.indexByte]
    split
    · omega
    · split <;> omega
theorem index_at (l r : List UInt8) (e : UInt8) (h : e ∉ l) : Lib.indexByte (l ++ e :: r) e = l.length := by
  induction l with
  | nil => simp [Lib.indexByte]
  | cons c l ih =>
    have h1 : (c == e) = false := by
      rw [beq_eq_false_iff_ne]
      intro hc
      exact h (by simp [hc])
    have h2 := ih (fun hc => h (by simp [hc]))
    simp only [List.cons_append, Lib.indexByte, h1, h2]
    have h3 : (((l.length : Nat) : Int) == -1) = false := by rw [beq_eq_false_iff_ne]; omega
    rw [h3]
    simp
theorem index_some (l : List UInt8) (e : UInt8) (i : Nat) (h : Lib.indexByte l e = i) : ∃ r, l = l.take i ++ e :: r := by
  induction l generalizing i with
  | nil => simp [Lib.indexByte] at h
  | cons c l ih =>
    by_cases hc : c = e
    · subst hc
      simp [Lib.indexByte] at h
      have h0 : i = 0 := by omega
      subst h0
      exact ⟨l, by simp⟩
    · have hc' : (c == e) = false := beq_eq_false_iff_ne.2 hc
      by_cases h1 : Lib.indexByte l e = -1
      · simp [Lib.indexByte, hc', h1] at h
      · have h1' : (Lib.indexByte l e == -1) = false := beq_eq_false_iff_ne.2 h1
        simp only [Lib.indexByte, hc', h1'] at h
        have h2 : Lib.indexByte l e + 1 = i := by simpa using h
        have h3 := index_ge l e
        obtain ⟨r, hr⟩ := ih (i - 1) (by omega)
        refine ⟨r, ?_⟩
        have hi : i = i - 1 + 1 := by omega
        rw [hi, List.take_succ_cons, List.cons_append, ← hr]
theorem numR_enc (e : UInt8) (he : Ends e) (least n : Int) (hn : I64 n) (hl : least ≤ n) (r : List UInt8) : numR e least (Lib.itoa n ++ e :: r) = some (n, r) := by
  have hlen := itoa_len n hn.1 hn.2
  have ht : (Lib.itoa n ++ e :: r).take 21 = Lib.itoa n ++ e :: r.take (20 - (Lib.itoa n).length) := by
    rw [List.take_append, List.take_of_length_le (by omega)]
    congr 1
    rw [show 21 - (Lib.itoa n).length = (20 - (Lib.itoa n).length) + 1 by omega, List.take_succ_cons]
  have hi := index_at (Lib.itoa n) (r.take (20 - (Lib.itoa n).length)) e (ends_not e he n)
  unfold numR
  rw [ht, hi, if_neg (by omega), Int.toNat_natCast, List.take_left, atoi_itoa n hn.1 hn.2]
  simp only
  rw [if_pos ⟨trivial, hl⟩]
  congr 2
  rw [List.drop_append, List.drop_eq_nil_of_le (by omega), List.nil_append, show (Lib.itoa n).length + 1 - (Lib.itoa n).length = 1 by omega]
  rfl
theorem numR_dec (e : UInt8) (least n : Int) (l r : List UInt8) (h : numR e least l = some (n, r)) : l = Lib.itoa n ++ e :: r ∧ least ≤ n ∧ I64 n := by
  unfold numR at h
  split at h
  · cases h
  · rename_i hi
    obtain ⟨i, hi'⟩ : ∃ i : Nat, Lib.indexByte (l.take 21) e = i := ⟨(Lib.indexByte (l.take 21) e).toNat, by omega⟩
    rw [hi', Int.toNat_natCast] at h
    split at h
    · rename_i m hm
      split at h
      · rename_i hc
        injection h with h
        injection h with h1 h2
        subst h1
        obtain ⟨r', hr'⟩ := index_some _ _ _ hi'
        have hb := Lib.atoiAll_bounds hm
        have hl2 : l = l.take i ++ e :: (r' ++ l.drop 21) := by
          have h3 : l = l.take 21 ++ l.drop 21 := (List.take_append_drop 21 l).symm
          have h4 : (l.take 21).take i = l.take i := by
            have hil : i < (l.take 21).length := by
              have := congrArg List.length hr'
              simp only [List.length_append, List.length_cons, List.length_take] at this ⊢
              omega
            rw [List.length_take] at hil
            rw [List.take_take, Nat.min_eq_left (by omega)]
          rw [h4] at hr'
          conv => lhs; rw [h3, hr']
          simp
        refine ⟨?_, hc.2, hb⟩
        rw [hc.1, ← h2]
        have hli : (l.take i).length = i := by
          have := congrArg List.length hl2
          rw [List.length_append, List.length_cons, List.length_append, List.length_take] at this
          rw [List.length_take]
          omega
        have h5 : l.drop (i + 1) = r' ++ l.drop 21 := by
          conv => lhs; rw [hl2]
          rw [List.drop_append, hli, List.drop_eq_nil_of_le (by omega), show i + 1 - i = 1 by omega]
          rfl
        rw [h5]
        exact hl2
      · cases h
    · cases h
theorem ends59 : Ends 59 := by unfold Ends; decide
theorem ends58 : Ends 58 := by unfold Ends; decide
theorem ends91 : Ends 91 := by unfold Ends; decide
theorem numR_nil (e : UInt8) (least : Int) : numR e least [] = none := rfl

theorem rnum_enc (e : UInt8) (he : Ends e) (least n : Int) (hn : I64 n) (hl : least ≤ n) (r : List UInt8) (b : Bool) : rnum e least (Lib.itoa n ++ e :: r, b) = (n, (r, b)) := by
  unfold rnum
  rw [numR_enc e he least n hn hl r]
/-- A number that was read without failing. -/
theorem rnum_dec (e : UInt8) (least : Int) (s : Rd) (h : (rnum e least s).2.2 = false) : s.2 = false ∧ s.1 = Lib.itoa (rnum e least s).1 ++ e :: (rnum e least s).2.1 ∧ least ≤ (rnum e least s).1 ∧ I64 (rnum e least s).1 := by
  unfold rnum at h ⊢
  cases hn : numR e least s.1 with
  | none => rw [hn] at h; cases h
  | some p =>
    obtain ⟨n, r⟩ := p
    rw [hn] at h
    obtain ⟨h1, h2, h3⟩ := numR_dec e least n s.1 r hn
    exact ⟨h, h1, h2, h3⟩
/-- A failed reader has nothing left. -/
def Ok (s : Rd) : Prop := s.2 = true → s.1 = []
theorem ok_dead : Ok dead := fun _ => rfl
theorem rnum_ok (e : UInt8) (least : Int) (s : Rd) (h : Ok s) : Ok (rnum e least s).2 := by
  unfold rnum
  cases hn : numR e least s.1 with
  | none => exact ok_dead
  | some p =>
    intro hb
    have := h hb
    rw [this, numR_nil] at hn
    cases hn
theorem rnum_bad (e : UInt8) (least : Int) (s : Rd) (h : (rnum e least s).2.2 = true) (hs : Ok s) : rnum e least s = (0, dead) := by
  unfold rnum at h ⊢
  cases hn : numR e least s.1 with
  | none => rfl
  | some p =>
    rw [hn] at h
    have := hs h
    rw [this, numR_nil] at hn
    cases hn
theorem rnum_range (e : UInt8) (least : Int) (s : Rd) : I64 (rnum e least s).1 ∧ ((rnum e least s).1 = 0 ∨ least ≤ (rnum e least s).1) := by
  unfold rnum
  cases hn : numR e least s.1 with
  | none => exact ⟨⟨by simp, by simp⟩, .inl rfl⟩
  | some p =>
    obtain ⟨h1, h2, h3⟩ := numR_dec e least p.1 s.1 p.2 hn
    exact ⟨h3, .inr h2⟩
theorem rnum_len (e : UInt8) (least : Int) (s : Rd) : (rnum e least s).2.1.length ≤ s.1.length ∧ ((rnum e least s).2.2 = false → (rnum e least s).2.1.length < s.1.length) := by
  unfold rnum
  cases hn : numR e least s.1 with
  | none => exact ⟨by simp [dead], fun h => by simp [dead] at h⟩
  | some p =>
    obtain ⟨h1, _, _⟩ := numR_dec e least p.1 s.1 p.2 hn
    have := congrArg List.length h1
    rw [List.length_append, List.length_cons] at this
    exact ⟨by simp only; omega, fun _ => by simp only; omega⟩
theorem rclose_ok (e : UInt8) (s : Rd) (h : Ok s) : Ok (rclose e s) := by
  obtain ⟨l, b⟩ := s
  cases l with
  | nil => exact ok_dead
  | cons c r =>
    simp only [rclose]
    split
    · intro hb
      have := h hb
      cases this
    · exact ok_dead
theorem rclose_len (e : UInt8) (s : Rd) : (rclose e s).1.length ≤ s.1.length := by
  obtain ⟨l, b⟩ := s
  cases l with
  | nil => simp [rclose, dead]
  | cons c r => simp only [rclose]; split <;> simp [dead]
theorem rclose_enc (e : UInt8) (r : List UInt8) (b : Bool) : rclose e (e :: r, b) = (r, b) := by simp [rclose]
theorem rclose_dec (e : UInt8) (s : Rd) (h : (rclose e s).2 = false) : s = (e :: (rclose e s).1, false) := by
  obtain ⟨l, b⟩ := s
  cases l with
  | nil => simp [rclose, dead] at h
  | cons c r =>
    simp only [rclose] at h ⊢
    split at h
    · rename_i hc
      subst hc
      simp only at h
      subst h
      simp
    · simp [dead] at h

/-! ### Texts -/
theorem rtext_enc (x r : List UInt8) (hx : x.length ≤ 9223372036854775807) (b : Bool) (hb : b = false) : rtext (encText x ++ r, b) = (x, (r, b)) := by
  subst hb
  have h1 : rnum 58 0 (encText x ++ r, false) = ((x.length : Int), (x ++ (44 :: r), false)) := by
    have := rnum_enc 58 ends58 0 x.length ⟨by omega, by omega⟩ (by omega) (x ++ (44 :: r)) false
    have e1 : encText x ++ r = Lib.itoa (x.length : Int) ++ 58 :: (x ++ (44 :: r)) := by simp [encText]
    rw [e1]
    exact this
  unfold rtext
  rw [h1]
  simp only [Int.toNat_natCast]
  rw [if_neg (by rw [List.length_append]; omega), List.drop_left, rclose_enc, List.take_left]
  simp
theorem rtext_dec (s : Rd) (h : (rtext s).2.2 = false) : s.2 = false ∧ s.1 = encText (rtext s).1 ++ (rtext s).2.1 ∧ (rtext s).1.length ≤ 9223372036854775807 := by
  unfold rtext at h ⊢
  split at h
  · simp [dead] at h
  · rename_i hlen
    rw [if_neg hlen]
    split at h
    · rename_i hb
      rw [hb] at h
      cases h
    · rename_i hb
      rw [if_neg hb]
      have hb' : (rclose 44 ((rnum 58 0 s).2.1.drop (rnum 58 0 s).1.toNat, (rnum 58 0 s).2.2)).2 = false := by simpa using hb
      have hc := rclose_dec 44 _ hb'
      have hc1 := congrArg Prod.fst hc
      have hc2 := congrArg Prod.snd hc
      simp only at hc1 hc2
      obtain ⟨d1, d2, d3, d4⟩ := rnum_dec 58 0 s hc2
      refine ⟨d1, ?_, ?_⟩
      · simp only
        have ht : ((rnum 58 0 s).2.1.take (rnum 58 0 s).1.toNat).length = (rnum 58 0 s).1.toNat := by rw [List.length_take]; omega
        unfold encText
        rw [ht, show (((rnum 58 0 s).1.toNat : Nat) : Int) = (rnum 58 0 s).1 by omega]
        simp only [List.append_assoc, List.cons_append, List.nil_append]
        rw [← hc1, List.take_append_drop]
        exact d2
      · simp only [List.length_take]
        have := d4.2
        omega
theorem rtext_ok (s : Rd) (h : Ok s) : Ok (rtext s).2 := by
  unfold rtext
  split
  · exact ok_dead
  · have h1 : Ok ((rnum 58 0 s).2.1.drop (rnum 58 0 s).1.toNat, (rnum 58 0 s).2.2) := fun hb => by
      have h2 := rnum_ok 58 0 s h hb
      simp only
      rw [h2]
      simp
    split
    · exact rclose_ok _ _ h1
    · exact rclose_ok _ _ h1
theorem rtext_len (s : Rd) : (rtext s).2.1.length ≤ s.1.length ∧ ((rtext s).2.2 = false → (rtext s).2.1.length < s.1.length) ∧ (rtext s).1.length ≤ s.1.length := by
  have h1 := rnum_len 58 0 s
  unfold rtext
  split
  · exact ⟨by simp [dead], fun h => by simp [dead] at h, by simp⟩
  · have h2 := rclose_len 44 ((rnum 58 0 s).2.1.drop (rnum 58 0 s).1.toNat, (rnum 58 0 s).2.2)
    simp only [List.length_drop] at h2
    split
    · rename_i hb
      refine ⟨by simp only; omega, (fun h => ?_), by simp⟩
      simp only at h
      rw [hb] at h
      cases h
    · rename_i hb
      have hb' : (rclose 44 ((rnum 58 0 s).2.1.drop (rnum 58 0 s).1.toNat, (rnum 58 0 s).2.2)).2 = false := by simpa using hb
      have hc2 := congrArg Prod.snd (rclose_dec 44 _ hb')
      simp only at hc2
      have := h1.2 hc2
      exact ⟨by simp only; omega, fun _ => by simp only; omega, by simp only [List.length_take]; omega⟩

/-! ### Lists -/
/-- A reading of one element. -/
structure Reads {α : Type} (one : Rd → α × Rd) (enc : α → List UInt8) (good : α → Prop) : Prop where
  toEnc : ∀ x r, good x → one (enc x ++ r, false) = (x, (r, false))
  ofEnc : ∀ s, (one s).2.2 = false → s.2 = false ∧ s.1 = enc (one s).1 ++ (one s).2.1 ∧ good (one s).1
  keepOk : ∀ s, Ok s → Ok (one s).2
  less : ∀ s, (one s).2.1.length ≤ s.1.length ∧ ((one s).2.2 = false → (one s).2.1.length < s.1.length)
theorem reads_int : Reads rint encInt I64 := ⟨fun x r hx => by
    have := rnum_enc 59 ends59 (-9223372036854775808) x hx hx.1 r false
    unfold rint
    rw [show encInt x ++ r = Lib.itoa x ++ 59 :: r by simp [encInt]]
    exact this, fun s h => by
    obtain ⟨h1, h2, h3, h4⟩ := rnum_dec 59 (-9223372036854775808) s h
    exact ⟨h1, by rw [show encInt (rint s).1 ++ (rint s).2.1 = Lib.itoa (rint s).1 ++ 59 :: (rint s).2.1 by simp [encInt]]; exact h2, h4⟩, fun s h => rnum_ok _ _ s h, fun s => rnum_len _ _ s⟩
theorem reads_text : Reads rtext encText (fun x => x.length ≤ 9223372036854775807) := ⟨fun x r hx => rtext_enc x r hx false rfl, fun s h => rtext_dec s h, fun s h => rtext_ok s h, fun s => ⟨(rtext_len s).1, (rtext_len s).2.1⟩⟩

section
variable {α : Type} {one : Rd → α × Rd} {enc : α → List UInt8} {good : α → Prop}
theorem ritems_enc (h : Reads one enc good) (xs : List α) (hx : ∀ x, x ∈ xs → good x) (r : List UInt8) : ritems one xs.length ((xs.map enc).flatten ++ r, false) = (xs, (r, false)) := by
  induction xs with
  | nil => simp [ritems]
  | cons x xs ih =>
    have h1 := h.toEnc x ((xs.map enc).flatten ++ r) (hx x (by simp))
    have h2 := ih (fun y hy => hx y (by simp [hy]))
    simp only [List.length_cons, List.map_cons, List.flatten_cons, List.append_assoc, ritems]
    rw [if_neg (by simp), h1]
    simp only
    rw [h2]
theorem ritems_dec (h : Reads one enc good) (n : Nat) (s : Rd) (hb : (ritems one n s).2.2 = false) : s.2 = false ∧ (ritems one n s).1.length = n ∧ s.1 = ((ritems one n s).1.map enc).flatten ++ (ritems one n s).2.1 ∧ ∀ x, x ∈ (ritems one n s).1 → good x := by
  induction n generalizing s with
  | zero => exact ⟨hb, rfl, by simp [ritems], fun x hx => by simp [ritems] at hx⟩
  | succ n ih =>
    by_cases hs : s.2 = true
    · simp only [ritems, if_pos hs] at hb
      rw [hs] at hb
      cases hb
    · simp only [ritems, if_neg hs] at hb ⊢
      obtain ⟨h1, h2, h3, h4⟩ := ih (one s).2 hb
      obtain ⟨d1, d2, d3⟩ := h.ofEnc s h1
      refine ⟨d1, by simp [h2], ?_, fun x hx => ?_⟩
      · rw [d2]
        simp only [List.map_cons, List.flatten_cons, List.append_assoc]
        rw [← h3]
      · rcases List.mem_cons.1 hx with rfl | hx
        · exact d3
        · exact h4 x hx
theorem ritems_ok (h : Reads one enc good) (n : Nat) (s : Rd) (hs : Ok s) : Ok (ritems one n s).2 := by
  induction n generalizing s with
  | zero => exact hs
  | succ n ih =>
    simp only [ritems]
    split
    · exact hs
    · exact ih _ (h.keepOk s hs)
theorem ritems_len (h : Reads one enc good) (n : Nat) (s : Rd) : (ritems one n s).2.1.length ≤ s.1.length := by
  induction n generalizing s with
  | zero => exact Nat.le_refl _
  | succ n ih =>
    simp only [ritems]
    split
    · exact Nat.le_refl _
    · exact Nat.le_trans (ih _) (h.less s).1
theorem rlist_enc (h : Reads one enc good) (xs : List α) (hx : ∀ x, x ∈ xs → good x) (hl : xs.length ≤ 9223372036854775807) (r : List UInt8) : rlist one (encList (xs.map enc) ++ r, false) = (xs, (r, false)) := by
  have h1 : rnum 91 0 (encList (xs.map enc) ++ r, false) = ((xs.length : Int), ((xs.map enc).flatten ++ (93 :: r), false)) := by
    have := rnum_enc 91 ends91 0 xs.length ⟨by omega, by omega⟩ (by omega) ((xs.map enc).flatten ++ (93 :: r)) false
    have e1 : encList (xs.map enc) ++ r = Lib.itoa (xs.length : Int) ++ 91 :: ((xs.map enc).flatten ++ (93 :: r)) := by simp [encList]
    rw [e1]
    exact this
  have h2 := ritems_enc h xs hx (93 :: r)
  unfold rlist
  rw [h1]
  simp only [Int.toNat_natCast]
  rw [h2]
  simp only
  rw [rclose_enc]
  simp
theorem rlist_dec (h : Reads one enc good) (s : Rd) (hb : (rlist one s).2.2 = false) : s.2 = false ∧ s.1 = encList ((rlist one s).1.map enc) ++ (rlist one s).2.1 ∧ (∀ x, x ∈ (rlist one s).1 → good x) ∧ (rlist one s).1.length ≤ 9223372036854775807 := by
  unfold rlist at hb ⊢
  split at hb
  · rename_i hc
    rw [hc] at hb
    cases hb
  · rename_i hc
    rw [if_neg hc]
    have hc' : (rclose 93 (ritems one (rnum 91 0 s).1.toNat (rnum 91 0 s).2).2).2 = false := by simpa using hc
    have hcl := rclose_dec 93 _ hc'
    have hc1 := congrArg Prod.fst hcl
    have hc2 := congrArg Prod.snd hcl
    simp only at hc1 hc2
    obtain ⟨i1, i2, i3, i4⟩ := ritems_dec h _ _ hc2
    obtain ⟨d1, d2, d3, d4⟩ := rnum_dec 91 0 s i1
    refine ⟨d1, ?_, i4, ?_⟩
    · simp only
      unfold encList
      rw [List.length_map, i2, show (((rnum 91 0 s).1.toNat : Nat) : Int) = (rnum 91 0 s).1 by omega]
      simp only [List.append_assoc, List.cons_append, List.nil_append]
      rw [← hc1, ← i3]
      exact d2
    · simp only
      rw [i2]
      have := d4.2
      omega
theorem rlist_ok (h : Reads one enc good) (s : Rd) (hs : Ok s) : Ok (rlist one s).2 := by
  unfold rlist
  split <;> exact rclose_ok _ _ (ritems_ok h _ _ (rnum_ok _ _ s hs))
theorem rlist_len (h : Reads one enc good) (s : Rd) : (rlist one s).2.1.length ≤ s.1.length ∧ ((rlist one s).2.2 = false → (rlist one s).2.1.length < s.1.length) := by
  have h1 := rnum_len 91 0 s
  have h2 := ritems_len h (rnum 91 0 s).1.toNat (rnum 91 0 s).2
  have h3 := rclose_len 93 (ritems one (rnum 91 0 s).1.toNat (rnum 91 0 s).2).2
  refine ⟨by unfold rlist; split <;> (simp only; omega), fun hb => ?_⟩
  obtain ⟨_, h4, _⟩ := rlist_dec h s hb
  have := congrArg List.length h4
  rw [List.length_append] at this
  have h5 : 0 < (encList ((rlist one s).1.map enc)).length := by unfold encList; simp; omega
  omega
end

end Go.Proofs.YthajdajhclpaaaaDoor.Wr
