/- The plain law of MarksTree: trackers of which no input is idle. -/
import Derived.Test.YthajdajhclpaaaaRisePl
import Derived.Laws.BitsLemmas
namespace Go.Proofs.Ythajdajhclpaaaa
open Go.RowKit

theorem i64_and7 (n : Int) : bits .and .i64 n 7 = n % 8 := by
  have h127 : (BitVec.ofInt 64 7).toNat = 2 ^ 3 - 1 := by decide
  have key : (BitVec.ofInt 64 n &&& BitVec.ofInt 64 7).toNat = (n % ((2 ^ 64 : Nat) : Int)).toNat % 2 ^ 3 := by
    rw [BitVec.toNat_and, BitVec.toNat_ofInt, h127, Nat.and_two_pow_sub_one_eq_mod]
  show IntKind.i64.wrap ((BitVec.ofInt 64 n &&& BitVec.ofInt 64 7).toNat : Nat) = n % 8
  rw [key, IntKind.wrap_i64]
  omega
theorem i64_and63 (n : Int) : bits .and .i64 n 63 = n % 64 := by
  have h127 : (BitVec.ofInt 64 63).toNat = 2 ^ 6 - 1 := by decide
  have key : (BitVec.ofInt 64 n &&& BitVec.ofInt 64 63).toNat = (n % ((2 ^ 64 : Nat) : Int)).toNat % 2 ^ 6 := by
    rw [BitVec.toNat_and, BitVec.toNat_ofInt, h127, Nat.and_two_pow_sub_one_eq_mod]
  show IntKind.i64.wrap ((BitVec.ofInt 64 n &&& BitVec.ofInt 64 63).toNat : Nat) = n % 64
  rw [key, IntKind.wrap_i64]
  omega

/-- The inputs of a tracker of which none is idle. -/
def up (l : List Int) : List (Int × Bool) := l.map fun x => (x, false)
/-- The least of a list that is not empty. -/
def mn (l : List Int) : Int := (Mk.least l).getD 0

theorem mn_le {l : List Int} {x : Int} (h : x ∈ l) : mn l ≤ x := by
  unfold mn
  cases hl : Mk.least l with
  | none => cases l with
    | nil => cases h
    | cons y r => cases hl
  | some m => exact least_le hl x h
theorem mn_mem {l : List Int} (h : l ≠ []) : mn l ∈ l := by
  cases l with
  | nil => exact absurd rfl h
  | cons x r =>
    show r.foldl min x ∈ x :: r
    clear h
    induction r generalizing x with
    | nil => simp
    | cons y r ih =>
      simp only [List.foldl_cons]
      have := ih (min x y)
      rcases List.mem_cons.1 this with h | h
      · rw [h]
        rcases Int.le_total x y with h2 | h2
        · rw [Int.min_eq_left h2]; simp
        · rw [Int.min_eq_right h2]; simp
      · simp [h]
theorem mn_ge {l : List Int} (hl : l ≠ []) {m : Int} (h : ∀ x ∈ l, m ≤ x) : m ≤ mn l := h _ (mn_mem hl)
theorem act_up (l : List Int) : Mk.act (up l) = l := by
  unfold Mk.act up
  induction l with
  | nil => rfl
  | cons x l ih => simp at ih ⊢; exact ih
theorem settled_up {l : List Int} (hl : l ≠ []) {c : Int} (hc : ∀ x ∈ l, c ≤ x) : Mk.settled (up l) c = mn l := by
  unfold Mk.settled
  rw [act_up]
  have h : Mk.least l = some (mn l) := by
    cases l with
    | nil => exact absurd rfl hl
    | cons x r => rfl
  rw [h]
  have := mn_ge hl hc
  simp only
  omega

theorem set_mem {l : List Int} {i : Nat} {x y : Int} (h : y ∈ l.set i x) : y ∈ l ∨ y = x := List.mem_or_eq_of_mem_set h
/-- A mark that grows. -/
theorem mn_set {l : List Int} (i : Nat) (hi : i < l.length) (x : Int) (hx : l[i] ≤ x) : mn l ≤ mn (l.set i x) := by
  have hne : l.set i x ≠ [] := by intro e; have := congrArg List.length e; rw [List.length_set, List.length_nil] at this; omega
  refine mn_ge hne (fun y hy => ?_)
  rcases set_mem hy with h | rfl
  · exact mn_le h
  · exact Int.le_trans (mn_le (List.getElem_mem hi)) hx

theorem note_up (l : List Int) (i : Nat) (hi : i < l.length) (m : Int) (hm0 : -1 ≤ m) (hm1 : m ≤ 1099511627776) :
    noteE (up l) i m = 0 ∧ noteS (up l) (mn l) i m = (up (l.set i (max m l[i])), mn (l.set i (max m l[i]))) := by
  have hlen : (up l).length = l.length := by simp [up]
  have hi' : (i : Int) < (up l).length := by rw [hlen]; omega
  have he : noteE (up l) i m = 0 := by unfold noteE; rw [if_neg (by omega), if_neg (by omega)]
  have hI : noteI (up l) i m = up (l.set i (max m l[i])) := by
    unfold noteI up
    simp [hi, List.map_set]
  refine ⟨he, ?_⟩
  unfold noteS
  rw [if_pos he, hI, settled_up]
  · intro e; have := congrArg List.length e; rw [List.length_set, List.length_nil] at this; omega
  · intro x hx
    rcases set_mem hx with h | rfl
    · exact mn_le h
    · have := mn_le (List.getElem_mem hi); omega
theorem note_not (l : List Int) (i m : Int) (h : ¬(0 ≤ i ∧ i < l.length ∧ -1 ≤ m ∧ m ≤ 1099511627776)) : noteE (up l) i m ≠ 0 ∧ noteS (up l) (mn l) i m = (up l, mn l) := by
  have hlen : (up l).length = l.length := by simp [up]
  have he : noteE (up l) i m ≠ 0 := by
    unfold noteE
    rw [hlen]
    split
    · decide
    · split
      · decide
      · omega
  exact ⟨he, by unfold noteS; rw [if_neg he]⟩

/-- All leaves' inputs as one list, and where a leaf begins. -/
def offs (L : List (List Int)) (k : Nat) : Nat := ((L.take k).map List.length).sum
theorem offs_le (L : List (List Int)) (k : Nat) (hk : k < L.length) : offs L k + L[k].length ≤ L.flatten.length := by
  induction L generalizing k with
  | nil => simp at hk
  | cons x L ih =>
    cases k with
    | zero => simp [offs]
    | succ k =>
      have := ih k (by simpa using hk)
      simp [offs] at this ⊢
      omega
theorem flatten_at (L : List (List Int)) (k : Nat) (hk : k < L.length) (i : Nat) (hi : i < L[k].length) : L.flatten[offs L k + i]? = some L[k][i] := by
  induction L generalizing k with
  | nil => simp at hk
  | cons x L ih =>
    cases k with
    | zero => simp [offs] at hi ⊢; simp [List.getElem?_append_left hi]
    | succ k =>
      have hb : offs (x :: L) (k + 1) = x.length + offs L k := by simp [offs]
      have := ih k (by simpa using hk) (by simpa using hi)
      simp only [hb, List.flatten_cons, List.getElem_cons_succ]
      rw [List.getElem?_append_right (by omega)]
      simp only [show x.length + offs L k + i - x.length = offs L k + i by omega]
      exact this
theorem flatten_set (L : List (List Int)) (k : Nat) (hk : k < L.length) (i : Nat) (hi : i < L[k].length) (x : Int) : (L.set k (L[k].set i x)).flatten = L.flatten.set (offs L k + i) x := by
  induction L generalizing k with
  | nil => simp at hk
  | cons y L ih =>
    cases k with
    | zero =>
      simp [offs] at hi ⊢
      rw [List.set_append_left _ _ hi]
    | succ k =>
      have hb : offs (y :: L) (k + 1) = y.length + offs L k := by simp [offs]
      have := ih k (by simpa using hk) (by simpa using hi)
      simp only [List.set_cons_succ, List.flatten_cons, List.getElem_cons_succ, hb, this]
      rw [List.set_append_right _ _ (by omega)]
      simp only [show y.length + offs L k + i - y.length = offs L k + i by omega]
theorem mn_flatten (L : List (List Int)) (hL : L ≠ []) (hne : ∀ l ∈ L, l ≠ []) : mn (L.map mn) = mn L.flatten := by
  have hm : L.map mn ≠ [] := by simpa using hL
  have hf : L.flatten ≠ [] := by
    cases L with
    | nil => exact absurd rfl hL
    | cons x L =>
      have := hne x (by simp)
      cases x with
      | nil => exact absurd rfl this
      | cons y r => simp
  apply Int.le_antisymm
  · refine mn_ge hf (fun x hx => ?_)
    obtain ⟨l, hl, hxl⟩ := List.mem_flatten.1 hx
    exact Int.le_trans (mn_le (List.mem_map.2 ⟨l, hl, rfl⟩)) (mn_le hxl)
  · refine mn_ge hm (fun x hx => ?_)
    obtain ⟨l, hl, rfl⟩ := List.mem_map.1 hx
    exact mn_le (List.mem_flatten.2 ⟨l, hl, mn_mem (hne l hl)⟩)

/-- The leaves: at least one, at most eight, each with one to eight inputs, all marks in range. -/
structure Leaves (L : List (List Int)) : Prop where
  pos : L ≠ []
  ne : ∀ l ∈ L, l ≠ []
  rng : ∀ l ∈ L, ∀ x ∈ l, -1 ≤ x ∧ x ≤ 1099511627776
theorem Leaves.set {L : List (List Int)} (h : Leaves L) (k : Nat) (hk : k < L.length) (i : Nat) (m : Int) (hm0 : -1 ≤ m) (hm1 : m ≤ 1099511627776) (hi : i < L[k].length) : Leaves (L.set k (L[k].set i (max m L[k][i]))) := by
  refine ⟨?_, fun l hl => ?_, fun l hl x hx => ?_⟩
  · intro e; have := congrArg List.length e; rw [List.length_set, List.length_nil] at this; omega
  · rcases List.mem_or_eq_of_mem_set hl with h1 | rfl
    · exact h.ne l h1
    · intro e; have := congrArg List.length e; rw [List.length_set, List.length_nil] at this; omega
  · rcases List.mem_or_eq_of_mem_set hl with h1 | rfl
    · exact h.rng l h1 x hx
    · have hr := h.rng L[k] (List.getElem_mem hk)
      rcases set_mem hx with h2 | rfl
      · exact hr x h2
      · have := hr _ (List.getElem_mem hi); omega
theorem Leaves.mn_rng {L : List (List Int)} (h : Leaves L) (k : Nat) (hk : k < L.length) : -1 ≤ mn L[k] ∧ mn L[k] ≤ 1099511627776 := h.rng _ (List.getElem_mem hk) _ (mn_mem (h.ne _ (List.getElem_mem hk)))
/-- The tracker of the common marks, behind a note of the leaf's new common mark. -/
theorem top_set {L : List (List Int)} (k : Nat) (hk : k < L.length) (l' : List Int) (hge : mn L[k] ≤ mn l') : (L.map mn).set k (max (mn l') ((L.map mn)[k]'(by simpa using hk))) = (L.set k l').map mn := by
  rw [List.map_set]
  congr 1
  simp only [List.getElem_map]
  omega

theorem offs_set (L : List (List Int)) (k : Nat) (l l' : List Int) (h : L[k]? = some l) (hl : l'.length = l.length) (j : Nat) : offs (L.set k l') j = offs L j := by
  unfold offs
  congr 1
  have e : (L.set k l').map List.length = L.map List.length := by
    rw [List.map_set, hl]
    apply List.ext_getElem?
    intro q
    rw [List.getElem?_set]
    split
    · rename_i hq
      subst hq
      split
      · simp [h]
      · rename_i h2
        simp at h2
        rw [List.getElem?_eq_none (by simpa using h2)]
    · rfl
  rw [List.map_take, List.map_take, e]
/-- What a note of a leaf, of the one tracker and of the top one leaves. -/
theorem sets3 (L : List (List Int)) (k : Nat) (hk : k < L.length) (a b c : List Int) (x y : List Int) : (((L ++ [x] ++ [y]).set k a).set L.length b).set (L.length + 1) c = L.set k a ++ [b] ++ [c] := by
  rw [List.append_assoc, List.set_append_left _ _ hk]
  rw [List.set_append_right _ _ (by simp), List.set_append_right _ _ (by simp)]
  simp
/-- The marks of a note that is in range, at the leaf, at the one tracker and at the top one. -/
theorem note_all {L : List (List Int)} (h : Leaves L) (k : Nat) (l : List Int) (hk : L[k]? = some l) (i : Nat) (hi : i < l.length) (m : Int) (hm0 : -1 ≤ m) (hm1 : m ≤ 1099511627776) :
    ∃ l', l'.length = l.length ∧ Leaves (L.set k l') ∧ l' ≠ [] ∧ (L.set k l').flatten ≠ [] ∧ (L.set k l').map mn ≠ [] ∧
      (noteE (up l) i m = 0 ∧ noteS (up l) (mn l) i m = (up l', mn l')) ∧
      (noteE (up L.flatten) ((offs L k : Int) + i) m = 0 ∧ noteS (up L.flatten) (mn L.flatten) ((offs L k : Int) + i) m = (up (L.set k l').flatten, mn (L.set k l').flatten)) ∧
      (noteE (up (L.map mn)) k (mn l') = 0 ∧ noteS (up (L.map mn)) (mn (L.map mn)) k (mn l') = (up ((L.set k l').map mn), mn ((L.set k l').map mn))) ∧
      mn ((L.set k l').map mn) = mn (L.set k l').flatten := by
  obtain ⟨hkl, hkv⟩ := List.getElem?_eq_some_iff.1 hk
  subst hkv
  have hS := h.set k hkl i m hm0 hm1 hi
  have hn1 : (L[k].set i (max m L[k][i])) ≠ [] := hS.ne _ (List.mem_iff_getElem.2 ⟨k, by simpa using hkl, by simp⟩)
  have hfl : offs L k + i < L.flatten.length := by have := offs_le L k hkl; omega
  have hf1 := note_up L.flatten (offs L k + i) hfl m hm0 hm1
  have hat : L.flatten[offs L k + i] = L[k][i] := by
    have := flatten_at L k hkl i hi
    rw [List.getElem?_eq_getElem hfl] at this
    exact Option.some.inj this
  rw [hat, ← flatten_set L k hkl i hi, show ((offs L k + i : Nat) : Int) = (offs L k : Int) + i by omega] at hf1
  have hrng := hS.mn_rng k (by simpa using hkl)
  simp only [List.getElem_set_self] at hrng
  have ht1 := note_up (L.map mn) k (by simpa using hkl) (mn (L[k].set i (max m L[k][i]))) hrng.1 hrng.2
  rw [top_set k hkl _ (mn_set i hi _ (by omega))] at ht1
  refine ⟨_, by simp, hS, hn1, ?_, ?_, note_up L[k] i hi m hm0 hm1, hf1, ht1, mn_flatten _ hS.pos hS.ne⟩
  · intro e
    have hl0 : (L.set k (L[k].set i (max m L[k][i]))).flatten.length = 0 := by rw [e]; rfl
    have := offs_le (L.set k (L[k].set i (max m L[k][i]))) k (by simpa using hkl)
    simp only [List.getElem_set_self, List.length_set] at this
    omega
  · intro e
    have := congrArg List.length e
    rw [List.length_map, List.length_set, List.length_nil] at this
    omega

theorem offs_all (L : List (List Int)) : offs L L.length = L.flatten.length := by
  unfold offs
  rw [List.take_of_length_le (Nat.le_refl _), List.length_flatten]
theorem offs_fits (L : List (List Int)) (k : Nat) (l : List Int) (h : L[k]? = some l) : offs L k + l.length ≤ offs L L.length := by
  obtain ⟨h1, h2⟩ := List.getElem?_eq_some_iff.1 h
  have := offs_le L k h1
  rw [offs_all, ← h2]
  exact this

end Go.Proofs.Ythajdajhclpaaaa
