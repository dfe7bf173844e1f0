/- Rows of values in memory; value.all, value.RightRow; slices.Clone and the reference's comparing. -/
import Derived.Test.YtkpmfbcepkpnpaaVal
import Derived.Deep.LoopGhost
import Derived.Lib.SliceRun
import Derived.Shelf.Abstract
namespace Go.Proofs.Ytkpmfbcepkpnpaa
open Go.RowKit

/-- The row that a slice value holds: its cells lie in a block that was there at B, or in one of values alone; in none of X. -/
def RV (B : Nat) (X : List Nat) (w : World) (v : Value) (row : List Vl) : Prop :=
  ∃ A c, v = .slice A row.length c ∧ row.length ≤ maxLen ∧ (0 < row.length → ∃ b off, A = some ⟨b, off, none⟩ ∧ Came w b off (vcells row) ∧ b ∉ X ∧ (b < B ∨ ∃ cs, Row w b 44 cs))
/-- Blocks that hold no rows: blocks of X; new ones since B, of other types. -/
def Off (B : Nat) (X : List Nat) (w : World) (S : List Nat) : Prop := ∀ k, k ∈ S → k ∈ X ∨ (B ≤ k ∧ ∀ cs, ¬ Row w k 44 cs)
theorem RV.fr {B : Nat} {X : List Nat} {w w' : World} {v : Value} {row : List Vl} {S : List Nat} (h : RV B X w v row) (hf : Fr S w w') (hS : Off B X w S) : RV B X w' v row := by
  obtain ⟨A, c, rfl, hl, hc⟩ := h
  refine ⟨A, c, rfl, hl, fun h0 => ?_⟩
  obtain ⟨b, off, rfl, hca, hX, hb⟩ := hc h0
  have hn : b ∉ S := fun hin => by
    rcases hS b hin with h | h
    · exact hX h
    rcases hb with hb | ⟨cs, hr⟩
    · omega
    · exact h.2 cs hr
  exact ⟨b, off, rfl, hca.of_block hf.size (hf.block b hca.1 hn), hX, hb.imp id fun ⟨cs, hr⟩ => ⟨cs, hr.fr hf hn⟩⟩
theorem Off.nil (B : Nat) (X : List Nat) (w : World) : Off B X w [] := fun _ h => by cases h
theorem RV.quiet {B : Nat} {X : List Nat} {w w' : World} {v : Value} {row : List Vl} (h : RV B X w v row) (hf : Fr [] w w') : RV B X w' v row := h.fr hf (Off.nil _ _ _)
theorem RV.mono {B B' : Nat} {X : List Nat} {w : World} {v : Value} {row : List Vl} (h : RV B X w v row) (hB : B ≤ B') : RV B' X w v row := by
  obtain ⟨A, c, rfl, hl, hc⟩ := h
  refine ⟨A, c, rfl, hl, fun h0 => ?_⟩
  obtain ⟨b, off, rfl, hca, hX, hb⟩ := hc h0
  exact ⟨b, off, rfl, hca, hX, hb.imp (fun h => by omega) id⟩
theorem RV.only {B : Nat} {X X' : List Nat} {w : World} {v : Value} {row : List Vl} (h : RV B X w v row) (hX : ∀ k, k ∈ X' → k ∈ X ∨ w.heap.size ≤ k) : RV B X' w v row := by
  obtain ⟨A, c, rfl, hl, hc⟩ := h
  refine ⟨A, c, rfl, hl, fun h0 => ?_⟩
  obtain ⟨b, off, rfl, hca, hX0, hb⟩ := hc h0
  refine ⟨b, off, rfl, hca, fun hin => ?_, hb⟩
  rcases hX b hin with h | h
  · exact hX0 h
  · have := hca.1; omega

/-- The first place at which p holds. -/
def fidx {α : Type} (p : α → Bool) : List α → Int
  | [] => -1
  | x :: l => if p x then 0 else if fidx p l < 0 then -1 else fidx p l + 1
theorem fidx_hit {α : Type} (p : α → Bool) (l : List α) (k : Nat) (x : α) (h : l[k]? = some x) (hp : p x = true) (hn : ∀ (j : Nat) y, j < k → l[j]? = some y → p y = false) : fidx p l = k := by
  induction l generalizing k with
  | nil => simp at h
  | cons y l ih =>
    cases k with
    | zero => simp at h; subst h; simp [fidx, hp]
    | succ k =>
      have h0 := hn 0 y (by omega) rfl
      have := ih k (by simpa using h) (fun j y hj hy => hn (j + 1) y (by omega) (by simpa using hy))
      simp only [fidx, h0, this]
      simp
      omega
theorem fidx_miss {α : Type} (p : α → Bool) (l : List α) (hn : ∀ (j : Nat) y, l[j]? = some y → p y = false) : fidx p l = -1 := by
  induction l with
  | nil => rfl
  | cons y l ih =>
    have h0 := hn 0 y rfl
    have := ih (fun j y hy => hn (j + 1) y (by simpa using hy))
    simp [fidx, h0, this]
theorem fidx_any {α : Type} (p : α → Bool) (l : List α) : decide (0 ≤ fidx p l) = l.any p := by
  induction l with
  | nil => rfl
  | cons y l ih =>
    simp only [fidx, List.any_cons, ← ih]
    by_cases h : p y
    · simp [h]
    · simp only [h, Bool.false_eq_true, if_false, Bool.false_or]
      split
      · simp; omega
      · simp; omega

/-- What is asked of a predicate on values. -/
def PredV (g : Nat) (lb : Array Value) (p : Vl → Bool) (B : Nat) (w : World) : Prop := ∀ (W : World) (x : Vl), Below B w W → Calls Try.prog g (#[.agg #[.int .i64 x.k, .int .i64 x.n, .string x.s]] ++ lb) W fun e w' => e = .returned (.bool (p x)) ∧ Below B W w'

set_option maxHeartbeats 2000000 in
theorem idx_any (g : Nat) (lb : Array Value) (eg : ∀ args w, (callFunc g args).run Try.prog w = .ok (.enter g args) w) (p : Vl → Bool) (A : Option Addr) (c : Nat) (row : List Vl) (w : World) (B : Nat) (hB : B ≤ w.heap.size) (hp : PredV g lb p w.heap.size w) (hl : row.length ≤ maxLen)
    (hA : 0 < row.length → ∃ b off, A = some ⟨b, off, none⟩ ∧ Came w b off (vcells row)) :
    Calls Try.prog 40 #[.slice A row.length c, .func (.func g) #[] lb] w fun e w' => e = .returned (.int .i64 (fidx p row)) ∧ Below w.heap.size w w' := by
  have HA := Lib.hid hA
  have Hp := Lib.hid hp
  have hmx : row.length ≤ 9223372036854775807 := Nat.le_trans hl (by decide)
  clear hA hp hl hB
  go_enter Try.func40, Try.ntmps40
  go_wp2
  go_loopw [5, 8] (fun _ iv wr => ∃ k : Nat, iv = .int .i64 k ∧ k ≤ row.length ∧ Below w.heap.size w wr ∧ ∀ (j : Nat) y, j < k → row[j]? = some y → p y = false) (fun _ iv _ => row.length - (intOf iv).toNat)
  case atStart => exact ⟨0, rfl, by omega, Below.refl _ _, fun j y hj => absurd hj (Nat.not_lt_zero _)⟩
  case round =>
    obtain ⟨k, rfl, hk, hb, hn⟩ := hrel
    have Hb := Lib.hid hb
    have Hn := Lib.hid hn
    clear hb hn
    by_cases hlt : k < row.length
    · obtain ⟨b, off, rfl, hca⟩ := HA.out (by omega)
      obtain ⟨x, hx⟩ : ∃ x, row[k]? = some x := ⟨_, List.getElem?_eq_getElem hlt⟩
      obtain ⟨v0, v1, v2⟩ := vcells_at row k x hx
      have hcw := hca.below Hb.out hca.1
      have c0 := hcw.2 _ _ v0
      have c1 := hcw.2 _ _ v1
      have c2 := hcw.2 _ _ v2
      rw [← Nat.add_assoc] at c1 c2
      have Hx := Lib.hid hx
      clear v0 v1 v2 hca hcw hx
      have hcon := Hp.out wr x Hb.out
      obtain ⟨xk, xn, xs⟩ := x
      simp only at c0 c1 c2 hcon
      cases hq : p ⟨xk, xn, xs⟩ with
      | true =>
        rw [hq] at hcon
        have Hcon := Lib.hid hcon
        have Hq := Lib.hid hq
        clear hcon hq
        go_wp2_with ((with_reducible refine Hcon.out.mono ?_); rintro e w' ⟨rfl, hb'⟩)
        go_ret
        refine ⟨?_, Hb.out.trans hb'⟩
        rw [fidx_hit p row k _ Hx.out Hq.out Hn.out]
        rfl
      | false =>
        rw [hq] at hcon
        have Hcon := Lib.hid hcon
        have Hq := Lib.hid hq
        clear hcon hq
        go_wp2_with ((with_reducible refine Hcon.out.mono ?_); rintro e w' ⟨rfl, hb'⟩; have Hb' := Lib.hid hb'; clear hb')
        go_roundw
        case rel =>
          refine ⟨k + 1, by go_num, by omega, Hb.out.trans Hb'.out, fun j y hj hy => ?_⟩
          by_cases e : j = k
          · subst e
            rw [Hx.out] at hy
            injection hy with hy
            subst hy
            exact Hq.out
          · exact Hn.out j y (by omega) hy
        case measure => simp [intOf]; omega
    · go_wp2
      go_ret
      refine ⟨?_, Hb.out⟩
      rw [fidx_miss p row (fun j y hy => Hn.out j y (by have := (List.getElem?_eq_some_iff.1 hy).1; omega) hy)]
      rfl

end Go.Proofs.Ytkpmfbcepkpnpaa
