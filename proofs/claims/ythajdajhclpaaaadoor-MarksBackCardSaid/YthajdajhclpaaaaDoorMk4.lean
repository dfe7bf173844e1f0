/- Walks of package marks, fourth part: Note and Idle at every argument, Cut. -/
import Derived.Test.YthajdajhclpaaaaDoorMk3
namespace Go.Proofs.YthajdajhclpaaaaDoor
open Go.RowKit

/-- A tracker behind Note. -/
def noteS (ins : List (Int × Bool)) (com i mark : Int) : List (Int × Bool) × Int := if noteE ins i mark = 0 then (noteI ins i mark, Mk.settled (noteI ins i mark) com) else (ins, com)
def idleE (ins : List (Int × Bool)) (i : Int) : Int := if ¬(0 ≤ i ∧ i < ins.length) then 4 else 0
def idleI (ins : List (Int × Bool)) (i : Int) (on : Bool) : List (Int × Bool) := ins.set i.toNat (((ins[i.toNat]?).getD (0, false)).1, on)
def idleS (ins : List (Int × Bool)) (com i : Int) (on : Bool) : List (Int × Bool) × Int := if idleE ins i = 0 then (idleI ins i on, Mk.settled (idleI ins i on) com) else (ins, com)

theorem flat_set1 (ins : List (Int × Bool)) (k : Nat) (h : k < ins.length) (b : Bool) (sp : List Value) : (flat ins ++ sp).set (k * 2 + 1) (.bool b) = flat (ins.set k (ins[k].1, b)) ++ sp := by
  induction ins generalizing k with
  | nil => simp at h
  | cons y l ih =>
    cases k with
    | zero => simp [flat]
    | succ k =>
      have := ih k (by simpa using h)
      have e1 : (k + 1) * 2 = k * 2 + 1 + 1 := by omega
      rw [e1]
      simpa [flat] using this
theorem Trk.sep {w : World} {a g c : Nat} {ins : List (Int × Bool)} {com : Int} (h : Trk w a (some ⟨g, 0, none⟩) c ins com) (hne : ins ≠ []) : a ≠ g := by
  obtain ⟨sp, hr⟩ := h.frow hne
  exact h.row.ne hr (by decide)

set_option maxRecDepth 100000 in
theorem note_any {a : Nat} {A : Option Addr} {c : Nat} {w : World} {ins : List (Int × Bool)} {com : Int} (h : Trk w a A c ins com) (i mark : Int) :
    Calls Tryd.prog 76 #[.pointer (some ⟨a, 0, none⟩), .int .i64 i, .int .i64 mark] w fun e w' => e = .returned (.int .i64 (noteE ins i mark)) ∧
      Trk w' a A c (noteS ins com i mark).1 (noteS ins com i mark).2 ∧ Fr (fpA a A) w w' := by
  by_cases hi : 0 ≤ i ∧ i < ins.length
  · by_cases hm : mark < -1 ∨ mark > 1099511627776
    · have e : noteE ins i mark = 3 := by unfold noteE; rw [if_neg (by simpa using hi), if_pos hm]
      have es : noteS ins com i mark = (ins, com) := by unfold noteS; rw [e]; rfl
      have Hh := Lib.hid (has_any a A ins.length c w i h.c0)
      rw [show (decide (0 ≤ i) && decide (i < (ins.length : Int))) = true by simp; omega] at Hh
      have H := Lib.hid h
      have E := Lib.hid e
      have Es := Lib.hid es
      have hm2 : (decide (mark < -1) || decide ((1099511627776 : Int) < mark)) = true := by simp; omega
      clear h e es
      rcases hm with hm | hm
      all_goals
        go_enter Tryd.func76, Tryd.ntmps76
        go_wp2_with (go_at_call 85; refine Hh.out.mono ?_; rintro e w' ⟨rfl, rfl⟩)
        go_ret
        exact ⟨by rw [E.out]; rfl, by rw [Es.out]; exact H.out, Fr.refl _ _⟩
    · have e : noteE ins i mark = 0 := by unfold noteE; rw [if_neg (by simpa using hi), if_neg hm]
      have es : noteS ins com i mark = (noteI ins i mark, Mk.settled (noteI ins i mark) com) := by unfold noteS; rw [e]; rfl
      have hne : ins ≠ [] := by rintro rfl; simp at hi; omega
      obtain ⟨g, rfl, _, _⟩ := h.inp.cell i.toNat (by omega)
      have := note_in h (h.sep hne) i.toNat mark (by omega) (by omega) (by omega)
      rw [Int.toNat_of_nonneg hi.1] at this
      rw [e, es]
      exact this
  · have e : noteE ins i mark = 4 := by unfold noteE; rw [if_pos hi]
    have es : noteS ins com i mark = (ins, com) := by unfold noteS; rw [e]; rfl
    have Hh := Lib.hid (has_any a A ins.length c w i h.c0)
    rw [show (decide (0 ≤ i) && decide (i < (ins.length : Int))) = false by simp; omega] at Hh
    have H := Lib.hid h
    have E := Lib.hid e
    have Es := Lib.hid es
    clear h e es
    go_enter Tryd.func76, Tryd.ntmps76
    go_wp2_with (go_at_call 85; refine Hh.out.mono ?_; rintro e w' ⟨rfl, rfl⟩)
    go_ret
    exact ⟨by rw [E.out]; rfl, by rw [Es.out]; exact H.out, Fr.refl _ _⟩

set_option maxRecDepth 100000 in
set_option maxHeartbeats 1000000 in
theorem idle_in {a g c : Nat} {w : World} {ins : List (Int × Bool)} {com : Int} (h : Trk w a (some ⟨g, 0, none⟩) c ins com) (hne : a ≠ g) (k : Nat) (on : Bool) (hi1 : k < ins.length) :
    Calls Tryd.prog 77 #[.pointer (some ⟨a, 0, none⟩), .int .i64 k, .bool on] w fun e w' => e = .returned (.int .i64 0) ∧
      Trk w' a (some ⟨g, 0, none⟩) c (idleI ins k on) (Mk.settled (idleI ins k on) com) ∧ Fr [a, g] w w' := by
  have h0 := h.c0
  have h1 := h.c1
  obtain ⟨g', hg', k0, k1⟩ := h.inp.cell k hi1
  obtain rfl : g = g' := by injection hg' with hg'; injection hg' with hg'
  have Hh := Lib.hid (has_any a (some ⟨g, 0, none⟩) ins.length c w k h0)
  rw [show (decide (0 ≤ (k : Int)) && decide ((k : Int) < (ins.length : Int))) = true by simp; omega] at Hh
  have hl := h.len
  have H := Lib.hid h
  obtain ⟨sp, hr⟩ := h.frow (by rintro rfl; simp at hi1)
  have f1 := hr.frozen (k * 2 + 1)
  have fa := h.row.frozen 1
  have en : idleI ins k on = ins.set k (ins[k].1, on) := by unfold idleI; simp [hi1]
  have T0 : Trk (w.setCell ⟨g, k * 2 + 1, none⟩ (.bool on)) a (some ⟨g, 0, none⟩) c (idleI ins k on) com := by
    rw [en]
    refine ⟨?_, .inr ⟨g, sp, rfl, ?_⟩, by simpa using h.len⟩
    · rw [List.length_set]
      exact h.row.far (p := ⟨g, k * 2 + 1, none⟩) hne _
    · rw [← flat_set1 ins k hi1 on sp]
      exact hr.set _ _
  have HT := Lib.hid T0
  clear h hg' hr en T0
  go_enter Tryd.func77, Tryd.ntmps77
  go_wp2_with (go_at_call 85; refine Hh.out.mono ?_; rintro e w' ⟨rfl, rfl⟩)
  refine (settled_any HT.out).mono ?_
  rintro e w1 ⟨rfl, hf1⟩
  have T2 := HT.out.fr hf1 (by simp)
  have c1 := T2.c1
  have z1 := T2.row.frozen 1
  have Hf1 := Lib.hid hf1
  have HT2 := Lib.hid T2
  clear hf1 T2
  go_wp2
  go_ret
  exact ⟨rfl, HT2.out.say (by rintro g' h; injection h with h; injection h with h; omega) _, ((((Fr.refl _ _).set (by simp) _)).then Hf1.out (by simp)).set (by simp) _⟩

theorem idle_any {a : Nat} {A : Option Addr} {c : Nat} {w : World} {ins : List (Int × Bool)} {com : Int} (h : Trk w a A c ins com) (i : Int) (on : Bool) :
    Calls Tryd.prog 77 #[.pointer (some ⟨a, 0, none⟩), .int .i64 i, .bool on] w fun e w' => e = .returned (.int .i64 (idleE ins i)) ∧
      Trk w' a A c (idleS ins com i on).1 (idleS ins com i on).2 ∧ Fr (fpA a A) w w' := by
  by_cases hi : 0 ≤ i ∧ i < ins.length
  · have e : idleE ins i = 0 := by unfold idleE; rw [if_neg (by simpa using hi)]
    have es : idleS ins com i on = (idleI ins i on, Mk.settled (idleI ins i on) com) := by unfold idleS; rw [e]; rfl
    have hne : ins ≠ [] := by rintro rfl; simp at hi; omega
    obtain ⟨g, rfl, _, _⟩ := h.inp.cell i.toNat (by omega)
    have := idle_in h (h.sep hne) i.toNat on (by omega)
    rw [Int.toNat_of_nonneg hi.1] at this
    rw [e, es]
    exact this
  · have e : idleE ins i = 4 := by unfold idleE; rw [if_pos hi]
    have es : idleS ins com i on = (ins, com) := by unfold idleS; rw [e]; rfl
    have Hh := Lib.hid (has_any a A ins.length c w i h.c0)
    rw [show (decide (0 ≤ i) && decide (i < (ins.length : Int))) = false by simp; omega] at Hh
    have H := Lib.hid h
    have E := Lib.hid e
    have Es := Lib.hid es
    clear h e es
    go_enter Tryd.func77, Tryd.ntmps77
    go_wp2_with (go_at_call 85; refine Hh.out.mono ?_; rintro e w' ⟨rfl, rfl⟩)
    go_ret
    exact ⟨by rw [E.out]; rfl, by rw [Es.out]; exact H.out, Fr.refl _ _⟩

/-- What Cut gives. -/
def cutV (time now ahead : Int) : Int :=
  if now > 0 ∧ ahead > 0 ∧ wrap64 (now + ahead) < 0 then min time 9223372036854775807
  else if now < 0 ∧ ahead < 0 ∧ wrap64 (now + ahead) ≥ 0 then min time (-9223372036854775808) else min time (wrap64 (now + ahead))

theorem cut_any (time now ahead : Int) (w : World) :
    Calls Tryd.prog 60 #[.int .i64 time, .int .i64 now, .int .i64 ahead] w fun e w' => e = .returned (.int .i64 (cutV time now ahead)) ∧ w = w' := by
  generalize hs : wrap64 (now + ahead) = sum
  have hc : cutV time now ahead = if now > 0 ∧ ahead > 0 ∧ sum < 0 then min time 9223372036854775807
    else if now < 0 ∧ ahead < 0 ∧ sum ≥ 0 then min time (-9223372036854775808) else min time sum := by unfold cutV; rw [hs]
  have Hc := Lib.hid hc
  clear hc
  go_enter Tryd.func60, Tryd.ntmps60
  go_wp2
  all_goals
    go_ret
    exact ⟨ret_int (by rw [Hc.out]; split <;> first | omega | (split <;> omega)), rfl⟩

end Go.Proofs.YthajdajhclpaaaaDoor
