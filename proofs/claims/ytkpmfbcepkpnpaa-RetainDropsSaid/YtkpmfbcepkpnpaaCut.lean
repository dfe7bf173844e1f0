/- The store's place, cut, Drop. -/
import Derived.Test.YtkpmfbcepkpnpaaAdd2
namespace Go.Proofs.Ytkpmfbcepkpnpaa
open Go.RowKit Go.Shelf

section
variable {B : Nat} {X : List Nat} {w w' : World} {a : Nat} {part first hor : Int} {v : Value} {es : List (Ev × Value)}

/-- How many events stand before a position. -/
def plc (first : Int) (n : Nat) (pos : Int) : Nat := (if pos ≤ first then 0 else if first + n ≤ pos then (n : Int) else pos - first).toNat

set_option maxHeartbeats 2000000 in
theorem place_any (h : St B X w a part first hor v es) (hf0 : 0 ≤ first) (hf1 : first ≤ 1099511627776) (hl : es.length ≤ 1000000) (pos : Int) :
    Calls Try.prog 28 #[.pointer (some ⟨a, 0, none⟩), .int .i64 pos] w fun e w' => e = .returned (.int .i64 (plc first es.length pos)) ∧ ∃ n, w' = w.drewN n := by
  obtain ⟨c0, c1, c2, c3⟩ := h.cells
  have Hnq := Lib.hid (fun m => next_quiet (h.quiet ((Fr.refl [] w).drew)) hf0 hf1 hl m)
  have Hnq0 := Lib.hid (fun m => next_quiet h hf0 hf1 hl m)
  clear h
  generalize es.length = n at *
  have hplc : (pos < first ∧ plc first n pos = 0) ∨ (pos = first ∧ plc first n pos = 0) ∨ (first < pos ∧ pos < first + n ∧ (plc first n pos : Int) = pos - first) ∨ (first < pos ∧ pos = first + n ∧ plc first n pos = n) ∨ (first < pos ∧ first + n < pos ∧ plc first n pos = n) := by
    unfold plc
    split
    · simp; omega
    · split
      · simp; omega
      · right; right; left
        refine ⟨by omega, by omega, ?_⟩
        omega
  have hw0 : IntKind.i64.wrap (first - first) = 0 := by rw [IntKind.wrap_i64]; omega
  have hw1 : IntKind.i64.wrap (first + n - first) = n := by rw [IntKind.wrap_i64]; omega
  generalize plc first n pos = r at *
  rcases hplc with ⟨h1, h2⟩ | ⟨h1, h2⟩ | ⟨h1, h2, h3⟩ | ⟨h1, h2, h3⟩ | ⟨h1, h2, h3⟩
  · subst h2
    have g1 : ¬ first < pos := by omega
    by_cases hn : n = 0
    · subst hn
      go_enter Try.func28, Try.ntmps28
      go_wp2_with fail
      go_quiet ((go_at_call 15; exact Hnq0.out _))
      go_wp2
      go_ret
      exact ⟨rfl, _, rfl⟩
    · have g2 : first < first + n := by omega
      go_enter Try.func28, Try.ntmps28
      go_wp2_with fail
      go_quiet ((go_at_call 15; exact Hnq0.out _))
      go_wp2
      go_ret
      exact ⟨rfl, _, rfl⟩
  · subst h1 h2
    have g1 : ¬ pos < pos := by omega
    by_cases hn : n = 0
    · subst hn
      go_enter Try.func28, Try.ntmps28
      go_wp2_with fail
      go_quiet ((go_at_call 15; exact Hnq0.out _))
      go_wp2
      go_ret
      exact ⟨rfl, _, rfl⟩
    · have g2 : pos < pos + n := by omega
      go_enter Try.func28, Try.ntmps28
      go_wp2_with fail
      go_quiet ((go_at_call 15; exact Hnq0.out _))
      go_wp2
      go_ret
      exact ⟨rfl, _, rfl⟩
  · have g2 : IntKind.i64.wrap (pos - first) = pos - first := by rw [IntKind.wrap_i64]; omega
    have H3 := Lib.hid h3
    clear h3
    go_enter Try.func28, Try.ntmps28
    go_wp2_with fail
    go_quiet ((go_at_call 15; exact Hnq0.out _))
    go_wp2
    go_ret
    exact ⟨ret_int H3.out.symm, _, rfl⟩
  · subst h2
    have g1 : ¬ first + (n : Int) < first + n := by omega
    have g3 : ¬ first + (n : Int) < first := by omega
    rw [h3]
    clear h3
    go_enter Try.func28, Try.ntmps28
    go_wp2_with fail
    go_quiet ((go_at_call 15; exact Hnq0.out _))
    go_wp2
    go_ret
    exact ⟨rfl, _, rfl⟩
  · have g1 : ¬ pos < first := by omega
    have g3 : ¬ pos < first + n := by omega
    rw [h3]
    clear h3
    go_enter Try.func28, Try.ntmps28
    go_wp2_with fail
    go_quiet ((go_at_call 15; exact Hnq0.out _))
    go_wp2
    go_ret
    exact ⟨rfl, _, rfl⟩
end

end Go.Proofs.Ytkpmfbcepkpnpaa
