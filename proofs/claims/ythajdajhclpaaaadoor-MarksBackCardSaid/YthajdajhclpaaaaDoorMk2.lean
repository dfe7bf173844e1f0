/- Walks of package marks, second part: Note, Idle, New, Cut. -/
import Derived.Test.YthajdajhclpaaaaDoorMk
import Derived.BigRegion
import Derived.ChangeAlike
namespace Go.Proofs.YthajdajhclpaaaaDoor
open Go.RowKit

def noteE (ins : List (Int × Bool)) (i mark : Int) : Int := if ¬(0 ≤ i ∧ i < ins.length) then 4 else if mark < -1 ∨ mark > 1099511627776 then 3 else 0
def noteI (ins : List (Int × Bool)) (i mark : Int) : List (Int × Bool) := ins.set i.toNat (max mark ((ins[i.toNat]?).getD (0, false)).1, false)

theorem flat_set (ins : List (Int × Bool)) (k : Nat) (h : k < ins.length) (x : Int × Bool) (sp : List Value) : ((flat ins ++ sp).set (k * 2) (.int .i64 x.1)).set (k * 2 + 1) (.bool x.2) = flat (ins.set k x) ++ sp := by
  induction ins generalizing k with
  | nil => simp at h
  | cons y l ih =>
    cases k with
    | zero => simp [flat]
    | succ k =>
      have := ih k (by simpa using h)
      have e1 : (k + 1) * 2 = k * 2 + 1 + 1 := by omega
      rw [e1]
      simpa [flat] using this

theorem Trk.frow {w : World} {a g c : Nat} {ins : List (Int × Bool)} {com : Int} (h : Trk w a (some ⟨g, 0, none⟩) c ins com) (hne : ins ≠ []) : ∃ sp, Row w g 93 (flat ins ++ sp) := by
  rcases h.inp with h0 | ⟨g', sp, hg, hr⟩
  · exact absurd h0 hne
  · injection hg with hg
    injection hg with hg
    subst hg
    exact ⟨sp, hr⟩
/-- A store of an input. -/
theorem Trk.put {w : World} {a g c : Nat} {ins : List (Int × Bool)} {com : Int} (h : Trk w a (some ⟨g, 0, none⟩) c ins com) (hag : a ≠ g) (k : Nat) (hk : k < ins.length) (x : Int × Bool) :
    Trk ((w.setCell ⟨g, k * 2, none⟩ (.int .i64 x.1)).setCell ⟨g, k * 2 + 1, none⟩ (.bool x.2)) a (some ⟨g, 0, none⟩) c (ins.set k x) com := by
  have hne : ins ≠ [] := by rintro rfl; simp at hk
  obtain ⟨sp, hr⟩ := h.frow hne
  refine ⟨?_, .inr ⟨g, sp, rfl, ?_⟩, by simpa using h.len⟩
  · rw [List.length_set]
    exact (h.row.far (p := ⟨g, k * 2, none⟩) hag _).far (p := ⟨g, k * 2 + 1, none⟩) hag _
  · rw [← flat_set ins k hk x sp]
    exact (hr.set _ _).set _ _
theorem Trk.drew {w : World} {a : Nat} {A : Option Addr} {c : Nat} {ins : List (Int × Bool)} {com : Int} (h : Trk w a A c ins com) : Trk w.drew a A c ins com := ⟨h.row, h.inp, h.len⟩
/-- A store of the common mark. -/
theorem Trk.say {w : World} {a : Nat} {A : Option Addr} {c : Nat} {ins : List (Int × Bool)} {com : Int} (h : Trk w a A c ins com) (hag : ∀ g, A = some ⟨g, 0, none⟩ → a ≠ g) (n : Int) :
    Trk (w.setCell ⟨a, 1, none⟩ (.int .i64 n)) a A c ins n := by
  refine ⟨h.row.set 1 _, ?_, h.len⟩
  rcases h.inp with h0 | ⟨g, sp, rfl, hr⟩
  · exact .inl h0
  · exact .inr ⟨g, sp, rfl, hr.far (p := ⟨a, 1, none⟩) (fun e => hag g rfl e.symm) _⟩

set_option maxRecDepth 100000 in
set_option maxHeartbeats 1000000 in
theorem note_in {a g c : Nat} {w : World} {ins : List (Int × Bool)} {com : Int} (h : Trk w a (some ⟨g, 0, none⟩) c ins com) (hne : a ≠ g) (k : Nat) (mark : Int) (hi1 : k < ins.length) (hm : -1 ≤ mark) (hm1 : mark ≤ 1099511627776) :
    Calls Tryd.prog 76 #[.pointer (some ⟨a, 0, none⟩), .int .i64 k, .int .i64 mark] w fun e w' => e = .returned (.int .i64 0) ∧
      Trk w' a (some ⟨g, 0, none⟩) c (noteI ins k mark) (Mk.settled (noteI ins k mark) com) ∧ Fr [a, g] w w' := by
  have h0 := h.c0
  have h1 := h.c1
  obtain ⟨g', hg', k0, k1⟩ := h.inp.cell k hi1
  obtain rfl : g = g' := by injection hg' with hg'; injection hg' with hg'
  have Hh := Lib.hid (has_any a (some ⟨g, 0, none⟩) ins.length c w k h0)
  rw [show (decide (0 ≤ (k : Int)) && decide ((k : Int) < (ins.length : Int))) = true by simp; omega] at Hh
  have hl := h.len
  have H := Lib.hid h
  obtain ⟨sp, hr⟩ := h.frow (by rintro rfl; simp at hi1)
  have f0 := hr.frozen (k * 2)
  have f1 := hr.frozen (k * 2 + 1)
  have fa := h.row.frozen 1
  have en : noteI ins k mark = ins.set k (max mark ins[k].1, false) := by unfold noteI; simp [hi1]
  have E := Lib.hid en
  clear h hg' hr en
  go_enter Tryd.func76, Tryd.ntmps76
  go_wp2_with (go_at_call 85; refine Hh.out.mono ?_; rintro e w' ⟨rfl, rfl⟩)
  go_region
  go_wp2_with fail
  all_goals
    have E2 := E
    first
      | (rw [show max mark ins[k].1 = ins[k].1 from by omega] at E2
         have T1 := (H.out.put hne k hi1 (ins[k].1, false)).drew
         rw [← E2.out] at T1
         refine (settled_any (w := _) T1).mono ?_
         rintro e w1 ⟨rfl, hf1⟩
         have T2 := T1.fr hf1 (by simp)
         have c1 := T2.c1
         have z1 := T2.row.frozen 1
         have Hf1 := Lib.hid hf1
         have HT2 := Lib.hid T2
         clear hf1 T2 T1)
      | (rw [show max mark ins[k].1 = mark from by omega] at E2
         have T1 := (H.out.put hne k hi1 (mark, false)).drew
         rw [← E2.out] at T1
         refine (settled_any (w := _) T1).mono ?_
         rintro e w1 ⟨rfl, hf1⟩
         have T2 := T1.fr hf1 (by simp)
         have c1 := T2.c1
         have z1 := T2.row.frozen 1
         have Hf1 := Lib.hid hf1
         have HT2 := Lib.hid T2
         clear hf1 T2 T1)
    go_wp2
    go_ret
    exact ⟨rfl, HT2.out.say (by rintro g' h; injection h with h; injection h with h; omega) _, (((((Fr.refl _ _).set (by simp) _).set (by simp) _).drew).then Hf1.out (by simp)).set (by simp) _⟩
end Go.Proofs.YthajdajhclpaaaaDoor
