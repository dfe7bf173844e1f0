/- Events in memory; the reference's comparing of lists of events, at equal ones. -/
import Derived.Test.YtkpmfbcepkpnpaaSame
namespace Go.Proofs.Ytkpmfbcepkpnpaa
open Go.RowKit Go.Shelf

structure Ev where
  part : Int
  pos : Int
  src : ByteArray
  schema : Int
  time : Int
  row : List Vl
instance : Inhabited Ev := ⟨⟨0, 0, ⟨#[]⟩, 0, 0, []⟩⟩
/-- An event's cells; v: where its row lies. -/
def evCells (p : Ev × Value) : List Value := [.int .i64 p.1.part, .int .i64 p.1.pos, .string p.1.src, .int .i64 p.1.schema, .int .i64 p.1.time, p.2]
def ecells (es : List (Ev × Value)) : List Value := es.flatMap evCells
theorem ecells_at (l : List (Ev × Value)) (j : Nat) (x : Ev × Value) (h : l[j]? = some x) (i : Nat) (u : Value) (hi : (evCells x)[i]? = some u) : (ecells l)[j * 6 + i]? = some u := flat_at evCells 6 (fun _ => rfl) l j x h i u hi
theorem ecells_len (l : List (Ev × Value)) : (ecells l).length = l.length * 6 := flat_len evCells 6 (fun _ => rfl) l
/-- The rows lie where they lie. -/
def Rows (B : Nat) (X : List Nat) (w : World) (es : List (Ev × Value)) : Prop := ∀ p, p ∈ es → RV B X w p.2 p.1.row ∧ p.1.row.length ≤ 100000
theorem Rows.fr {B : Nat} {X : List Nat} {w w' : World} {es : List (Ev × Value)} {S : List Nat} (h : Rows B X w es) (hf : Fr S w w') (hS : Off B X w S) : Rows B X w' es := fun p hp => ⟨(h p hp).1.fr hf hS, (h p hp).2⟩
theorem Rows.quiet {B : Nat} {X : List Nat} {w w' : World} {es : List (Ev × Value)} (h : Rows B X w es) (hf : Fr [] w w') : Rows B X w' es := h.fr hf (Off.nil _ _ _)

/-- The events that a slice value holds. -/
def ES (B : Nat) (X : List Nat) (w : World) (v : Value) (es : List (Ev × Value)) : Prop :=
  ∃ A c, v = .slice A es.length c ∧ es.length ≤ 9223372036854775807 ∧ (0 < es.length → ∃ b off, A = some ⟨b, off, none⟩ ∧ Came w b off (ecells es)) ∧ Rows B X w es

theorem neq_self (s : ByteArray) (w : World) : (binOp .neq 9 (.string s) (.string s)).run Try.prog w = .ok (.bool false) w := by
  have u9 := Try.underlying9
  have a9 := Try.isAgg9
  go_simp

set_option maxHeartbeats 4000000 in
theorem same12 {B B' : Nat} {X X' : List Nat} {w : World} {v v' : Value} {es es' : List (Ev × Value)} (h : ES B X w v es) (h' : ES B' X' w v' es') (he : es.map (·.1) = es'.map (·.1)) : Calls Try.prog 16 #[v, v'] w fun e w' => e = .returned (.bool true) ∧ Fr [] w w' := by
  obtain ⟨A, c, rfl, hmx, hA, hR⟩ := h
  obtain ⟨A', c', rfl, _, hA', hR'⟩ := h'
  have hlen : es'.length = es.length := by have := congrArg List.length he; simpa using this.symm
  rw [hlen]
  have HA := Lib.hid hA
  have HA' := Lib.hid hA'
  have HR := Lib.hid hR
  have HR' := Lib.hid hR'
  have He := Lib.hid he
  have Hlen := Lib.hid hlen
  clear hA hA' hR hR' he hlen
  go_enter Try.func16, Try.ntmps16
  go_wp2
  go_loopw [5] (fun iv wr => ∃ k : Nat, iv = .int .i64 k ∧ k ≤ es.length ∧ Fr [] w wr) (fun iv _ => es.length - (intOf iv).toNat)
  case atStart => exact ⟨0, rfl, by omega, Fr.refl _ _⟩
  case round =>
    obtain ⟨k, rfl, hk, hb⟩ := hrel
    have Hb := Lib.hid hb
    clear hb
    by_cases hlt : k < es.length
    · obtain ⟨b, off, rfl, hca⟩ := HA.out (by omega)
      obtain ⟨b', off', rfl, hca'⟩ := HA'.out (by rw [Hlen.out]; omega)
      obtain ⟨x, hx⟩ : ∃ x, es[k]? = some x := ⟨_, List.getElem?_eq_getElem hlt⟩
      obtain ⟨x', hx'⟩ : ∃ x', es'[k]? = some x' := ⟨_, List.getElem?_eq_getElem (by rw [Hlen.out]; exact hlt)⟩
      have hxx : x.1 = x'.1 := by
        have h1 : (es.map (·.1))[k]? = some x.1 := by simp [hx]
        rw [He.out] at h1
        simp [hx'] at h1
        exact h1.symm
      have hr := (HR.out x (List.mem_of_getElem? hx)).1.quiet Hb.out
      have hr' := (HR'.out x' (List.mem_of_getElem? hx')).1.quiet Hb.out
      rw [← hxx] at hr'
      have hcw := hca.of_block Hb.out.size (Hb.out.block _ hca.1 (by simp))
      have hcw' := hca'.of_block Hb.out.size (Hb.out.block _ hca'.1 (by simp))
      have cc := fun i u hi => hcw.2 _ _ (ecells_at es k x hx i u hi)
      have cc' := fun i u hi => hcw'.2 _ _ (ecells_at es' k x' hx' i u hi)
      obtain ⟨⟨p, q, s, sc, t, row⟩, y⟩ := x
      obtain ⟨ev', y'⟩ := x'
      simp only at hxx hr hr'
      subst hxx
      obtain ⟨yA, yc, hy⟩ : ∃ A c, y = .slice A row.length c := by obtain ⟨A, c, h, _⟩ := hr; exact ⟨A, c, h⟩
      obtain ⟨yA', yc', hy'⟩ : ∃ A c, y' = .slice A row.length c := by obtain ⟨A, c, h, _⟩ := hr'; exact ⟨A, c, h⟩
      subst hy hy'
      have c0 := cc 0 _ rfl
      have c1 := cc 1 _ rfl
      have c2 := cc 2 _ rfl
      have c3 := cc 3 _ rfl
      have c4 := cc 4 _ rfl
      have c5 := cc 5 _ rfl
      have e0 := cc' 0 _ rfl
      have e1 := cc' 1 _ rfl
      have e2 := cc' 2 _ rfl
      have e3 := cc' 3 _ rfl
      have e4 := cc' 4 _ rfl
      have e5 := cc' 5 _ rfl
      simp only [Nat.add_zero] at c0 e0
      rw [← Nat.add_assoc] at c1 c2 c3 c4 c5 e1 e2 e3 e4 e5
      simp only at c0 c1 c2 c3 c4 c5 e0 e1 e2 e3 e4 e5
      have hne := fun w => neq_self s w
      have hlb := hcw.1
      have hlb' := hcw'.1
      have Hr := Lib.hid hr
      have Hr' := Lib.hid hr'
      clear cc cc' hca hca' hcw hcw' hx hx' hr hr'
      go_wp2_with (go_at_call 20; refine (same03 (Hr.out.quiet (by (repeat' (first | with_reducible exact Fr.refl _ _ | with_reducible assumption | with_reducible apply Fr.drew | with_reducible apply Fr.drewN | with_reducible apply Fr.alloc | (with_reducible refine Fr.set ?_ (.inr (by first | exact Nat.le_refl _ | exact Nat.le_succ _ | (simp; done) | (simp; omega))) _))))) (Hr'.out.quiet (by (repeat' (first | with_reducible exact Fr.refl _ _ | with_reducible assumption | with_reducible apply Fr.drew | with_reducible apply Fr.drewN | with_reducible apply Fr.alloc | (with_reducible refine Fr.set ?_ (.inr (by first | exact Nat.le_refl _ | exact Nat.le_succ _ | (simp; done) | (simp; omega))) _)))))).mono ?_; rintro e w1 ⟨rfl, hf⟩; have Hf := Lib.hid hf; clear hf)
      go_roundw
      case rel => exact ⟨k + 1, by go_num, by omega, (Fr.trans (Hb.out.alloc _) (by (repeat' (first | with_reducible exact Fr.refl _ _ | with_reducible assumption | with_reducible apply Fr.drew | with_reducible apply Fr.drewN | with_reducible apply Fr.alloc | (with_reducible refine Fr.set ?_ (.inr (by first | exact Nat.le_refl _ | exact Nat.le_succ _ | (simp; done) | (simp; omega))) _))))).trans Hf.out⟩
      case measure => simp [intOf]; omega
    · have hkk : k = es.length := by omega
      subst hkk
      go_wp2
      go_ret
      exact ⟨rfl, Hb.out⟩

end Go.Proofs.Ytkpmfbcepkpnpaa
