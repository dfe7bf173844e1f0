/- The laws' operations in memory; few, pick. -/
import Derived.Test.YtkpmfbcepkpnpaaSmall
namespace Go.Proofs.Ytkpmfbcepkpnpaa
open Go.RowKit Go.Shelf

/-- An operation: what to do, an event, whether its position is the next one, a number. -/
structure Oq where
  do_ : Int
  ev : Ev
  nx : Bool
  n : Int
instance : Inhabited Oq := ⟨⟨0, default, false, 0⟩⟩
/-- An operation's cells; v: where its row lies. -/
def oqCells (p : Oq × Value) : List Value := [.int .i64 p.1.do_, .int .i64 p.1.ev.part, .int .i64 p.1.ev.pos, .string p.1.ev.src, .int .i64 p.1.ev.schema, .int .i64 p.1.ev.time, p.2, .bool p.1.nx, .int .i64 p.1.n]
def oqcs (l : List (Oq × Value)) : List Value := l.flatMap oqCells
theorem oqcs_at (l : List (Oq × Value)) (j : Nat) (x : Oq × Value) (h : l[j]? = some x) (i : Nat) (u : Value) (hi : (oqCells x)[i]? = some u) : (oqcs l)[j * 9 + i]? = some u := flat_at oqCells 9 (fun _ => rfl) l j x h i u hi
/-- The operations that came in. -/
def Ops (B : Nat) (w : World) (A : Option Addr) (l : List (Oq × Value)) : Prop := (0 < l.length → ∃ b off, A = some ⟨b, off, none⟩ ∧ Came w b off (oqcs l)) ∧ ∀ p, p ∈ l → RV B [] w p.2 p.1.ev.row
theorem Ops.quiet {B : Nat} {w w' : World} {A : Option Addr} {l : List (Oq × Value)} (h : Ops B w A l) (hf : Fr [] w w') : Ops B w' A l :=
  ⟨fun h0 => by
    obtain ⟨b, off, h1, h2⟩ := h.1 h0
    exact ⟨b, off, h1, h2.of_block hf.size (hf.block _ h2.1 (by simp))⟩, fun p hp => (h.2 p hp).quiet hf⟩

theorem pick_any (n : Int) (h0 : -9223372036854775808 ≤ n) (h1 : n ≤ 9223372036854775807) (w : World) : Calls Try.prog 9 #[.int .i64 n, .int .i64 5] w fun e w' => e = .returned (.int .i64 (n % 5)) ∧ w = w' := by
  have hm : n % 5 = if n.tmod 5 < 0 then n.tmod 5 + 5 else n.tmod 5 := by
    have h2 := Int.tmod_eq_emod (a := n) (b := 5)
    split at h2 <;> split <;> omega
  have hb : -5 < n.tmod 5 ∧ n.tmod 5 < 5 := by
    have h2 := Int.tmod_eq_emod (a := n) (b := 5)
    split at h2 <;> omega
  obtain ⟨hb0, hb1⟩ := hb
  have Hm := Lib.hid hm
  clear hm
  generalize hr : n.tmod 5 = r at *
  go_enter Try.func9, Try.ntmps9
  go_wp2
  all_goals
    go_ret
    exact ⟨ret_int (by rw [Hm.out]; first | rw [if_pos ‹_›] | rw [if_neg (by omega)]), rfl⟩

def SomeBool (w : World) (e : Ending) (w' : World) : Prop := ∃ b : Bool, e = .returned (.bool b) ∧ Fr [] w w'

set_option maxHeartbeats 2000000 in
theorem few1_any {B : Nat} {X : List Nat} (g : Nat) (p q : Int) (s : ByteArray) (sc t : Int) (rv : Value) (row : List Vl) (w : World) (hr : Row w g 30 [.int .i64 p, .int .i64 q, .string s, .int .i64 sc, .int .i64 t, rv]) (hv : RV B X w rv row) :
    Calls Try.prog 23 #[.slice (some ⟨g, 0, none⟩) 1 1, .int .i64 1] w (SomeBool w) := by
  obtain ⟨A, c, rfl, hl, hA⟩ := hv
  obtain ⟨_, _, c2, _, _, c5⟩ := box6 hr
  have HA := Lib.hid hA
  have hmx : row.length ≤ 9223372036854775807 := Nat.le_trans hl (by decide)
  clear hA hl hr
  go_enter Try.func23, Try.ntmps23
  go_wp2
  go_loopg [5] 2 (fun k iv wr => (wr = w) ∧ ((k = 2 ∧ iv = .int .i64 0) ∨ (k = 1 ∧ iv = .int .i64 1)))
  case atStart => exact ⟨rfl, .inl ⟨rfl, rfl⟩⟩
  case round =>
    obtain ⟨rfl, ⟨rfl, rfl⟩ | ⟨rfl, rfl⟩⟩ := hrel
    · by_cases h1 : (13 : Int) < (row.length : Int)
      · go_wp2
        go_ret
        exact ⟨_, rfl, Fr.refl _ _⟩
      · have h1' : decide ((13 : Int) < (row.length : Int)) = false := decide_eq_false h1
        by_cases h2 : (300 : Int) < (s.size : Int)
        · go_wp2
          go_ret
          exact ⟨_, rfl, Fr.refl _ _⟩
        · have h2' : decide ((300 : Int) < (s.size : Int)) = false := decide_eq_false h2
          clear h1 h2
          go_wp2
          go_loopg [6] (row.length + 1) (fun k iv wx => wx = wr ∧ ∃ j : Nat, iv = .int .i64 j ∧ j ≤ row.length ∧ k = row.length + 1 - j)
          case atStart => exact ⟨rfl, 0, rfl, by omega, by omega⟩
          case round =>
            obtain ⟨rfl, j, rfl, hj, rfl⟩ := hrel
            by_cases hjl : j < row.length
            · obtain ⟨b, off, rfl, hca, _⟩ := HA.out (by omega)
              obtain ⟨x, hx⟩ : ∃ x, row[j]? = some x := ⟨_, List.getElem?_eq_getElem hjl⟩
              obtain ⟨v0, v1, v2⟩ := vcells_at row j x hx
              have e2 := hca.2 _ _ v2
              rw [← Nat.add_assoc] at e2
              clear v0 v1 v2 hca hx
              by_cases h3 : (300 : Int) < (x.s.size : Int)
              · go_wp2
                go_ret
                exact ⟨_, rfl, Fr.refl _ _⟩
              · have h3' : decide ((300 : Int) < (x.s.size : Int)) = false := decide_eq_false h3
                go_wp2
                go_roundg (row.length + 1 - (j + 1))
                case measure => omega
                case rel => exact ⟨rfl, j + 1, by go_num, by omega, rfl⟩
            · have hjj : j = row.length := by omega
              subst hjj
              go_wp2
              go_roundg 1
              case measure => omega
              case rel => exact ⟨rfl, .inr ⟨rfl, rfl⟩⟩
    · go_wp2
      go_ret
      exact ⟨_, rfl, Fr.refl _ _⟩

/-- What few says: a bool; true only of at most 60. -/
def FewSays (n : Nat) (w : World) (e : Ending) (w' : World) : Prop := ∃ b : Bool, e = .returned (.bool b) ∧ (b = true → n ≤ 60) ∧ Fr [] w w'

set_option maxHeartbeats 2000000 in
theorem few_any (A : Option Addr) (c : Nat) (l : List (Oq × Value)) (B : Nat) (w : World) (hl : l.length ≤ 9223372036854775807) (h : Ops B w A l) : Calls Try.prog 7 #[.slice A l.length c] w (FewSays l.length w) := by
  have H := Lib.hid h
  clear h
  go_enter Try.func7, Try.ntmps7
  go_wp2
  go_loopw [3] (fun iv wr => ∃ k : Nat, iv = .int .i64 k ∧ k ≤ l.length ∧ Fr [] w wr) (fun iv _ => l.length - (intOf iv).toNat)
  case atStart => exact ⟨0, rfl, by omega, Fr.refl _ _⟩
  case round =>
    obtain ⟨k, rfl, hk, hf⟩ := hrel
    have Hf := Lib.hid hf
    have hops := H.out.quiet hf
    clear hf
    by_cases hlt : k < l.length
    · obtain ⟨b, off, rfl, hca⟩ := hops.1 (by omega)
      obtain ⟨x, hx⟩ : ∃ x, l[k]? = some x := ⟨_, List.getElem?_eq_getElem hlt⟩
      have hrv := hops.2 x (List.mem_of_getElem? hx)
      have cc := fun i u hi => hca.2 _ _ (oqcs_at l k x hx i u hi)
      obtain ⟨⟨d, ⟨p, q, s, sc, t, row⟩, nx, n⟩, y⟩ := x
      obtain ⟨yA, yc, hy⟩ : ∃ A c, y = .slice A row.length c := by obtain ⟨A, c, h, _⟩ := hrv; exact ⟨A, c, h⟩
      subst hy
      have c1 := cc 1 _ rfl
      have c2 := cc 2 _ rfl
      have c3 := cc 3 _ rfl
      have c4 := cc 4 _ rfl
      have c5 := cc 5 _ rfl
      have c6 := cc 6 _ rfl
      rw [← Nat.add_assoc] at c1 c2 c3 c4 c5 c6
      simp only at c1 c2 c3 c4 c5 c6
      have Hrv := Lib.hid hrv
      clear cc hca hx hops hrv
      go_wp2_with fail
      refine (few1_any wr.heap.size p q s sc t (.slice yA row.length yc) row _ (row_new _ _ _ _ rfl) (Hrv.out.quiet (by (repeat' (first | with_reducible exact Fr.refl _ _ | with_reducible assumption | with_reducible apply Fr.drew | with_reducible apply Fr.drewN | with_reducible apply Fr.alloc | (with_reducible refine Fr.set ?_ (.inr (by first | exact Nat.le_refl _ | exact Nat.le_succ _ | (simp; done) | (simp; omega))) _)))))).mono ?_
      rintro e w1 ⟨bb, rfl, hf1⟩
      have hfa : Fr [] wr (wr.alloc (.cells #[.int .i64 p, .int .i64 q, .string s, .int .i64 sc, .int .i64 t, .slice yA row.length yc] 30)) := by (repeat' (first | with_reducible exact Fr.refl _ _ | with_reducible assumption | with_reducible apply Fr.drew | with_reducible apply Fr.drewN | with_reducible apply Fr.alloc | (with_reducible refine Fr.set ?_ (.inr (by first | exact Nat.le_refl _ | exact Nat.le_succ _ | (simp; done) | (simp; omega))) _)))
      have Hf1 := Lib.hid (Hf.out.trans (hfa.trans hf1))
      clear hf1 hfa c1 c2 c3 c4 c5 c6
      cases bb
      · go_wp2
        go_ret
        exact ⟨false, rfl, (fun h => by cases h), Hf1.out⟩
      · go_wp2
        go_roundw
        case rel => exact ⟨k + 1, by go_num, by omega, Hf1.out⟩
        case measure => simp [intOf]; omega
    · go_wp2
      go_ret
      exact ⟨_, rfl, (fun h => by have := of_decide_eq_true h; omega), Hf.out⟩

end Go.Proofs.Ytkpmfbcepkpnpaa
