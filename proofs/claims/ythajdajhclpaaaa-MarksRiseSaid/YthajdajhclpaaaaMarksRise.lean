/- The statement MarksRise is proved: for all numbers and operations the law returns true, without conditions. -/
import Derived.Test.YthajdajhclpaaaaRows
import Derived.Test.YthajdajhclpaaaaRiseW
import Derived.Test.YthajdajhclpaaaaOps
namespace Go.Proofs.Ythajdajhclpaaaa.marksRise
open Go.ChangeShapes Go.WideShapes Go.ChangeAt Go.RowKit

theorem own : ownKnob Try.prog.godebug = none := by kernel_rfl

set_option maxRecDepth 100000 in
theorem rise_out (n : Int) (Aa : Option Addr) (len cap : Nat) (w : World) (h : n < 1 ∨ n > 50 ∨ len > 100) :
    Calls Try.prog 5 #[.int .i64 n, .slice Aa len cap] w fun e w' => e = .returned (.bool true) ∧ Fr [] w w' := by
  have hsm := Lib.hid (small_any w)
  rcases (show n < 1 ∨ (1 ≤ n ∧ n > 50) ∨ (1 ≤ n ∧ n ≤ 50 ∧ len > 100) by omega) with h1 | ⟨h1, h2⟩ | ⟨h1, h2, h3⟩
  all_goals
    clear h
    go_enter Try.func5, Try.ntmps5
    go_wp2_with (go_at_call 6; refine hsm.out.mono ?_; rintro e w0 ⟨rfl, hf⟩; have Hf := Lib.hid hf; clear hf)
    go_ret
    exact ⟨rfl, Hf.out⟩

theorem walk (n : Int) (Aa : Option Addr) (len cap : Nat) (l : List (Int × Int × Int)) (w : World) (hl : l.length = len) (hc : 0 < l.length → ∃ b off, Aa = some ⟨b, off, none⟩ ∧ Came w b off (opCells l)) :
    Calls Try.prog 5 #[.int .i64 n, .slice Aa len cap] w fun e w' => e = .returned (.bool true) ∧ Fr [] w w' := by
  subst hl
  by_cases h : n < 1 ∨ n > 50 ∨ l.length > 100
  · exact rise_out n Aa l.length cap w h
  · exact rise_main n Aa cap l w (by omega) (by omega) (by omega) hc

set_option maxRecDepth 100000 in
theorem lifted (os : Os) (started : os.Started) (H : Type) (enc : TypeId × Value → H) :
    ReturnsInHanded {} Try.checked os 5 .any (Rows.marksRiseSpec.pre6 enc Try.prog Try.f5 Rows.marksRiseRow.domain false) (Rows.marksRiseSpec.post enc Try.prog Try.f5 false true false false) := by
  refine returnsInHanded_of_change (C := Try.checked) own started (by kernel_rfl) Try.func5
    (ChangeSpec.witness6 (enc := enc) (C := Try.checked) false ⟨#[], #[.int .i64 0, .slice none 0 0], []⟩ 8 (by kernel_rfl) (by kernel_rfl) (by kernel_rfl) (by kernel_rfl)) ?_
  intro W base args ds gs before hval0 hW hcnd _
  have hval : ∀ (j : Nat) t v, Try.f5.params[j]? = some t → args[j]? = some v → Value.okWide Try.prog W .any base t v := hval0
  have hW' := hW
  obtain ⟨p, q, hA0, hV, rfl, hfz, hnd⟩ := hW
  have hA : DataW.TrodAll enc Try.prog W 0 (fun _ => true) true Try.f5.params.toList args.toList ds p := hA0
  rw [Try.params5] at hA hval
  obtain ⟨v0, v1, d0, d1, p0, p1, rfl, rfl, rfl, h0, h1⟩ := trodAll_two hA
  obtain ⟨rfl, rfl⟩ := trodVars_none hV
  obtain ⟨n, rfl, rfl, rfl, wn⟩ := open_int Try.underlying3 (hval 0 3 v0 rfl rfl) h0
  obtain ⟨a0, len, cap, rfl⟩ := okWide_slice Try.underlying23 (hval 1 23 v1 rfl rfl)
  obtain ⟨fuel, hf⟩ := h1
  obtain ⟨l, hl, hc⟩ := open_ops (by simpa [Value.cells] using hf) (fun x hx => hW'.lt x (by simpa using hx))
  clear hA0 hval0
  refine (walk n a0 len cap l W hl hc).mono fun e W' ⟨he, hg⟩ => ?_
  subst he
  exact ⟨_, rfl, law_close laidOut Try.underlying4 (by kernel_rfl) (by
    rw [Try.params5]
    intro t ht
    simp at ht
    rcases ht with rfl | rfl <;> exact ⟨by kernel_rfl, of_decide_eq_true (by kernel_rfl)⟩) rfl hW' rfl hg.below0⟩

theorem over : Rows.marksRiseRow.holds Try.pinned (OpenSpec.ofChange Rows.marksRiseSpec) :=
  OpenClaim.holds_of_wide 5 Try.f5 rfl rfl rfl rfl rfl rfl rfl ⟨rfl, rfl, rfl, rfl, rfl⟩ rfl rfl rfl rfl rfl (by kernel_rfl) Try.func5 (by kernel_rfl)
    (of_decide_eq_true (by kernel_rfl)) (by unfold Func.isWrapper; first | (rw [if_pos (by decide +kernel)]; kernel_rfl) | (rw [if_neg (by decide +kernel)]; exact ⟨rfl, rfl⟩))
    (fun os started H enc _ => lifted os started H enc)

theorem proved : Rows.MarksRiseSaid := over
#print axioms proved
end Go.Proofs.Ythajdajhclpaaaa.marksRise
