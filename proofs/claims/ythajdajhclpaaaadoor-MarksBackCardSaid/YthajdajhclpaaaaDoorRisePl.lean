/- The plain law of MarksRise: what an operation does to the marks, and what stays true of them. -/
import Derived.Test.YthajdajhclpaaaaDoorMk5
namespace Go.Proofs.YthajdajhclpaaaaDoor
open Go.RowKit

theorem foldl_min_le (l : List Int) (x : Int) : l.foldl min x ≤ x ∧ ∀ y ∈ l, l.foldl min x ≤ y := by
  induction l generalizing x with
  | nil => simp
  | cons z l ih =>
    have h := ih (min x z)
    simp only [List.foldl_cons, List.mem_cons]
    refine ⟨by omega, ?_⟩
    rintro y (rfl | hy)
    · omega
    · exact h.2 y hy
theorem least_le {l : List Int} {m : Int} (h : Mk.least l = some m) : ∀ y ∈ l, m ≤ y := by
  cases l with
  | nil => cases h
  | cons x r =>
    simp only [Mk.least, Option.some.injEq] at h
    subst h
    intro y hy
    rcases List.mem_cons.1 hy with rfl | hy
    · exact (foldl_min_le r y).1
    · exact (foldl_min_le r x).2 y hy
theorem foldl_min_ge (l : List Int) (x m : Int) (hx : m ≤ x) (h : ∀ y ∈ l, m ≤ y) : m ≤ l.foldl min x := by
  induction l generalizing x with
  | nil => simpa using hx
  | cons z l ih =>
    simp only [List.foldl_cons]
    have hz := h z (by simp)
    exact ih (min x z) (by omega) (fun y hy => h y (by simp [hy]))
theorem least_ge {l : List Int} {n m : Int} (h : Mk.least l = some n) (hm : ∀ y ∈ l, m ≤ y) : m ≤ n := by
  cases l with
  | nil => cases h
  | cons x r =>
    simp only [Mk.least, Option.some.injEq] at h
    subst h
    exact foldl_min_ge r x m (hm x (by simp)) (fun y hy => hm y (by simp [hy]))
theorem settled_ge (ins : List (Int × Bool)) (com : Int) : com ≤ Mk.settled ins com := by
  unfold Mk.settled
  split <;> omega
theorem mem_act {ins : List (Int × Bool)} {x : Int × Bool} (h : x ∈ ins) (hx : x.2 = false) : x.1 ∈ Mk.act ins := by
  unfold Mk.act
  exact List.mem_map.2 ⟨x, List.mem_filter.2 ⟨h, by simp [hx]⟩, rfl⟩
theorem settled_le {ins : List (Int × Bool)} {com : Int} {x : Int × Bool} (h : x ∈ ins) (hx : x.2 = false) (hc : com ≤ x.1) : Mk.settled ins com ≤ x.1 := by
  unfold Mk.settled
  split
  · exact hc
  · rename_i n hn
    have := least_le hn x.1 (mem_act h hx)
    omega

theorem ofB_at (ins : List (Int × Bool)) (k : Nat) (h : k < ins.length) : ofB ins k = ins[k] := by
  unfold ofB
  rw [if_pos (by omega)]
  simp [h]

/-- What an operation does: nothing, or one input turns, and the common mark settles. -/
theorem do_cases (ins : List (Int × Bool)) (com d i m : Int) :
    (doE ins d i m ≠ 0 ∧ doS ins com d i m = (ins, com)) ∨
    (doE ins d i m = 0 ∧ 0 ≤ i ∧ i < ins.length ∧ ∃ v, (ofB ins i).1 ≤ v ∧ doS ins com d i m = (ins.set i.toNat (v, decide (dk d = 2)), Mk.settled (ins.set i.toNat (v, decide (dk d = 2))) com)) := by
  have hg : ∀ h : 0 ≤ i ∧ i < ins.length, (ofB ins i).1 = ((ins[i.toNat]?).getD (0, false)).1 := by
    intro h
    unfold ofB
    rw [if_pos h.1]
    simp [show i.toNat < ins.length by omega]
  unfold doE doS
  by_cases h2 : dk d = 2
  · simp only [h2, if_true]
    unfold idleS idleE idleI
    by_cases hi : 0 ≤ i ∧ i < ins.length
    · right
      rw [if_neg (by simpa using hi)]
      exact ⟨rfl, hi.1, hi.2, _, Int.le_of_eq (hg hi), by simp⟩
    · left
      rw [if_pos hi]
      exact ⟨by decide, by simp⟩
  · by_cases h3 : dk d = 3
    · simp only [h3, if_true, if_neg (show ¬((3 : Int) = 2) by decide)]
      unfold idleS idleE idleI
      by_cases hi : 0 ≤ i ∧ i < ins.length
      · right
        rw [if_neg (by simpa using hi)]
        exact ⟨rfl, hi.1, hi.2, _, Int.le_of_eq (hg hi), by simp⟩
      · left
        rw [if_pos hi]
        exact ⟨by decide, by simp⟩
    · simp only [if_neg h2, if_neg h3]
      unfold noteS noteE noteI
      by_cases hi : 0 ≤ i ∧ i < ins.length
      · rw [if_neg (by simpa using hi)]
        by_cases hm : m < -1 ∨ m > 1099511627776
        · left
          rw [if_pos hm]
          exact ⟨by decide, by simp⟩
        · right
          rw [if_neg hm]
          refine ⟨rfl, hi.1, hi.2, max m ((ins[i.toNat]?).getD (0, false)).1, ?_, by simp [h2]⟩
          rw [hg hi]
          omega
      · left
        rw [if_pos hi]
        exact ⟨by decide, by simp⟩

/-- What stays true: an input that was never idle is not, and has at least the common mark; where none ever was, the common mark is the least. -/
structure RInv (n : Nat) (ins : List (Int × Bool)) (com : Int) (W : List Bool) (sm : Bool) : Prop where
  len : ins.length = n
  free : ∀ k : Nat, k < n → W.getD k false = false → (ofB ins k).2 = false ∧ com ≤ (ofB ins k).1
  all : sm = false → (∀ k : Nat, k < n → W.getD k false = false) ∧ ∀ m, (∀ k : Nat, k < n → m ≤ (ofB ins k).1) → m ≤ com

theorem ofB_set (ins : List (Int × Bool)) (i : Int) (h0 : 0 ≤ i) (h1 : i < ins.length) (x : Int × Bool) (k : Nat) (_hk : k < ins.length) : ofB (ins.set i.toNat x) k = if (k : Int) = i then x else ofB ins k := by
  unfold ofB
  have hk0 : (0 : Int) ≤ (k : Int) := by omega
  simp only [if_pos hk0, Int.toNat_natCast, List.getElem?_set]
  by_cases h : (k : Int) = i
  · rw [if_pos h, if_pos (show i.toNat = k by omega), if_pos (show i.toNat < ins.length by omega)]; rfl
  · rw [if_neg h, if_neg (show ¬ i.toNat = k by omega)]

/-- What every step gives. -/
theorem step_up (ins : List (Int × Bool)) (com d i m : Int) : com ≤ (doS ins com d i m).2 ∧ (doS ins com d i m).1.length = ins.length ∧ ∀ k : Nat, k < ins.length → (ofB ins k).1 ≤ (ofB (doS ins com d i m).1 k).1 := by
  rcases do_cases ins com d i m with ⟨_, h⟩ | ⟨_, h0, h1, v, hv, h⟩
  · rw [h]; exact ⟨Int.le_refl _, rfl, fun _ _ => Int.le_refl _⟩
  · rw [h]
    refine ⟨settled_ge _ _, by simp, fun k hk => ?_⟩
    rw [ofB_set ins i h0 h1 _ k hk]
    split
    · rename_i he
      subst he
      exact hv
    · exact Int.le_refl _

theorem rinv_start (n : Nat) (hn : 0 < n) (W : List Bool) (hW : ∀ k, W.getD k false = false) : RInv n (List.replicate n (-1, false)) (-1) W false := by
  have hk : ∀ k : Nat, k < n → ofB (List.replicate n (-1, false)) k = (-1, false) := by
    intro k hk
    rw [ofB_at _ _ (by simpa using hk)]
    simp
  refine ⟨by simp, fun k h _ => by rw [hk k h]; simp, fun _ => ⟨fun k _ => hW k, fun m hm => ?_⟩⟩
  have := hm 0 hn
  rw [hk 0 hn] at this
  exact this

theorem rinv_idle {n : Nat} {ins : List (Int × Bool)} {com : Int} {W : List Bool} {sm : Bool} (h : RInv n ins com W sm) (hW : n ≤ W.length) (d i m : Int) (he : doE ins d i m = 0) (_hd : dk d = 2) :
    RInv n (doS ins com d i m).1 (doS ins com d i m).2 (W.set i.toNat true) true := by
  rcases do_cases ins com d i m with ⟨h1, _⟩ | ⟨_, h0, h1, v, hv, hs⟩
  · exact absurd he h1
  · rw [hs]
    have hl := h.len
    refine ⟨by simpa using h.len, fun k hk hw => ?_, fun hc => by cases hc⟩
    have hki : (k : Int) ≠ i := by
      rintro rfl
      rw [List.getD_eq_getElem?_getD, Int.toNat_natCast, List.getElem?_set_self (by omega)] at hw
      cases hw
    have hw' : W.getD k false = false := by
      rw [List.getD_eq_getElem?_getD, List.getElem?_set_ne (by omega)] at hw
      rw [List.getD_eq_getElem?_getD]
      exact hw
    have hf := h.free k hk hw'
    have e : ofB (ins.set i.toNat (v, decide (dk d = 2))) k = ofB ins k := by rw [ofB_set ins i h0 h1 _ k (by omega), if_neg hki]
    rw [e]
    refine ⟨hf.1, ?_⟩
    have hmem : ofB ins k ∈ ins.set i.toNat (v, decide (dk d = 2)) := by
      rw [← e, ofB_at _ k (by simp; omega)]
      exact List.getElem_mem _
    exact settled_le hmem hf.1 hf.2

theorem rinv_other {n : Nat} {ins : List (Int × Bool)} {com : Int} {W : List Bool} {sm : Bool} (h : RInv n ins com W sm) (d i m : Int) (he : ¬(doE ins d i m = 0 ∧ dk d = 2)) :
    RInv n (doS ins com d i m).1 (doS ins com d i m).2 W sm := by
  rcases do_cases ins com d i m with ⟨h1, hs⟩ | ⟨h2, h0, h1, v, hv, hs⟩
  · rw [hs]; exact h
  · rw [hs]
    have hl := h.len
    have hd : ¬ dk d = 2 := fun hd => he ⟨h2, hd⟩
    have hmem : ∀ k : Nat, k < n → ofB (ins.set i.toNat (v, decide (dk d = 2))) k ∈ ins.set i.toNat (v, decide (dk d = 2)) := by
      intro k hk
      rw [ofB_at _ k (by simp; omega)]
      exact List.getElem_mem _
    have hfree : ∀ k : Nat, k < n → W.getD k false = false → (ofB (ins.set i.toNat (v, decide (dk d = 2))) k).2 = false ∧ com ≤ (ofB (ins.set i.toNat (v, decide (dk d = 2))) k).1 := by
      intro k hk hw
      have hf := h.free k hk hw
      rw [ofB_set ins i h0 h1 _ k (by omega)]
      split
      · rename_i hki
        subst hki
        exact ⟨by simp [hd], by have := hf.2; simp only; omega⟩
      · exact hf
    refine ⟨by simpa using h.len, fun k hk hw => ⟨(hfree k hk hw).1, settled_le (hmem k hk) (hfree k hk hw).1 (hfree k hk hw).2⟩, fun hc => ⟨(h.all hc).1, fun m' hm' => ?_⟩⟩
    -- nobody is idle: the least of all marks is the least of those that are not
    unfold Mk.settled
    split
    · rename_i hn
      have : ofB (ins.set i.toNat (v, decide (dk d = 2))) i.toNat ∈ ins.set i.toNat (v, decide (dk d = 2)) := hmem i.toNat (by omega)
      have h3 := mem_act this (hfree i.toNat (by omega) ((h.all hc).1 i.toNat (by omega))).1
      cases hact : Mk.act (ins.set i.toNat (v, decide (dk d = 2))) with
      | nil => rw [hact] at h3; cases h3
      | cons x r => rw [hact] at hn; cases hn
    · rename_i q hn
      have : m' ≤ q := by
        refine least_ge hn (fun y hy => ?_)
        unfold Mk.act at hy
        obtain ⟨z, hz, rfl⟩ := List.mem_map.1 hy
        obtain ⟨k, hk, hzk⟩ := List.mem_iff_getElem.1 (List.mem_filter.1 hz).1
        have := hm' k (by simp at hk; omega)
        rw [ofB_at _ k hk, hzk] at this
        exact this
      omega

end Go.Proofs.YthajdajhclpaaaaDoor
