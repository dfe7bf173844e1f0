/- The statement MarksCut is proved: for all times and clocks the law returns true, without conditions. -/
import Derived.Test.YthajdajhclpaaaaRows
import Derived.Test.YthajdajhclpaaaaMk5
import Derived.Test.YthajdajhclpaaaaRowKit
import Derived.OpenShut
namespace Go.Proofs.Ythajdajhclpaaaa.marksCut
open Go.ChangeShapes Go.WideShapes Go.ChangeAt Go.RowKit

theorem own : ownKnob Try.prog.godebug = none := by kernel_rfl

theorem cut_is (t n a : Int) (s : Int) (hs : wrap64 (n + a) = s) (h0 : -9223372036854775808 ≤ t) (h1 : t ≤ 9223372036854775807) (n0 : -9223372036854775808 ≤ n) (n1 : n ≤ 9223372036854775807) (a0 : -9223372036854775808 ≤ a) (a1 : a ≤ 9223372036854775807) :
    (n > 0 ∧ a > 0 ∧ s ≤ 0 ∧ cutV t n a = t) ∨ (n < 0 ∧ a < 0 ∧ s ≥ 0 ∧ cutV t n a = -9223372036854775808) ∨ (¬(n > 0 ∧ a > 0 ∧ s ≤ 0) ∧ ¬(n < 0 ∧ a < 0 ∧ s ≥ 0) ∧ t ≤ s ∧ cutV t n a = t) ∨
      (¬(n > 0 ∧ a > 0 ∧ s ≤ 0) ∧ ¬(n < 0 ∧ a < 0 ∧ s ≥ 0) ∧ s < t ∧ cutV t n a = s) := by
  have h : s = n + a ∨ s = n + a - 18446744073709551616 ∨ s = n + a + 18446744073709551616 := by
    unfold wrap64 at hs
    omega
  unfold cutV
  rw [hs]
  split
  · omega
  · split
    · omega
    · omega

set_option maxHeartbeats 1000000 in
theorem walk (t n a : Int) (w0 : (Lit.int .i64 t).wf = true) (w1 : (Lit.int .i64 n).wf = true) (w2 : (Lit.int .i64 a).wf = true) (w : World) :
    Calls Try.prog 4 #[.int .i64 t, .int .i64 n, .int .i64 a] w fun e w' => e = .returned (.bool true) ∧ Fr [] w w' := by
  generalize hs : wrap64 (n + a) = s
  have b0 := bounds_i64 w0
  have b1 := bounds_i64 w1
  have b2 := bounds_i64 w2
  have hc := fun W => cut_any t n a W
  have hsm := Lib.hid (small_any w)
  rcases cut_is t n a s hs b0.1 b0.2 b1.1 b1.2 b2.1 b2.2 with ⟨h1, h2, h3, hv⟩ | ⟨h1, h2, h3, hv⟩ | ⟨h1, h2, h3, hv⟩ | ⟨h1, h2, h3, hv⟩
  all_goals
    rw [hv] at hc
    have Hc := Lib.hid hc
    obtain ⟨b00, b01⟩ := b0
    clear hc hv b1 b2
    go_enter Try.func4, Try.ntmps4
    go_wp2_with (first
      | (go_at_call 6; refine hsm.out.mono ?_; rintro e w1 ⟨rfl, hf⟩; have Hf := Lib.hid hf; clear hf)
      | (go_at_call 10; refine (Hc.out _).mono ?_; rintro e w2 ⟨rfl, rfl⟩))
    all_goals
      go_ret
      first
        | exact ⟨rfl, Hf.out⟩
        | exact ⟨ret_bool (by simp; omega), Hf.out⟩

set_option maxRecDepth 100000 in
theorem lifted (os : Os) (started : os.Started) (H : Type) (enc : TypeId × Value → H) :
    ReturnsInHanded {} Try.checked os 4 .any (Rows.marksCutSpec.pre6 enc Try.prog Try.f4 Rows.marksCutRow.domain false) (Rows.marksCutSpec.post enc Try.prog Try.f4 false true false false) := by
  refine returnsInHanded_of_change (C := Try.checked) own started (by kernel_rfl) Try.func4
    (ChangeSpec.witness6 (enc := enc) (C := Try.checked) false ⟨#[], #[.int .i64 0, .int .i64 0, .int .i64 0], []⟩ 8 (by kernel_rfl) (by kernel_rfl) (by kernel_rfl) (by kernel_rfl)) ?_
  intro W base args ds gs before hval0 hW hcnd _
  have hval : ∀ (j : Nat) t v, Try.f4.params[j]? = some t → args[j]? = some v → Value.okWide Try.prog W .any base t v := hval0
  have hW' := hW
  obtain ⟨p, q, hA0, hV, rfl, hfz, hnd⟩ := hW
  have hA : DataW.TrodAll enc Try.prog W 0 (fun _ => true) true Try.f4.params.toList args.toList ds p := hA0
  rw [Try.params4] at hA hval
  obtain ⟨v0, vs0, d0, ds0, p0, q0, hargs, rfl, rfl, h0, r0⟩ := trodAll_cons hA
  obtain ⟨v1, vs1, d1, ds1, p1, q1, rfl, rfl, rfl, h1, r1⟩ := trodAll_cons r0
  obtain ⟨v2, vs2, d2, ds2, p2, q2, rfl, rfl, rfl, h2, r2⟩ := trodAll_cons r1
  obtain ⟨rfl, rfl, rfl⟩ := trodAll_nil r2
  obtain rfl : args = #[v0, v1, v2] := by cases args; simp_all
  obtain ⟨rfl, rfl⟩ := trodVars_none hV
  obtain ⟨a0, rfl, rfl, rfl, w0⟩ := open_int Try.underlying3 (hval 0 3 v0 rfl rfl) h0
  obtain ⟨a1, rfl, rfl, rfl, w1⟩ := open_int Try.underlying3 (hval 1 3 v1 rfl rfl) h1
  obtain ⟨a2, rfl, rfl, rfl, w2⟩ := open_int Try.underlying3 (hval 2 3 v2 rfl rfl) h2
  clear hA0 hval0
  simp only [List.append_nil] at hW'
  refine (walk a0 a1 a2 w0 w1 w2 W).mono fun e W' ⟨he, hg⟩ => ?_
  subst he
  exact ⟨_, rfl, post_of_below (pa := []) (pv := []) hW' (fun _ _ _ => (trodAll_cons_mk (shut_bool Try.underlying4 _) trodAll_mk0)) (fun sp _ => (trodAll_cons_mk (shut_int Try.underlying3 w0) (trodAll_cons_mk (shut_int Try.underlying3 w1) (trodAll_cons_mk (shut_int Try.underlying3 w2) trodAll_mk0)))) (fun _ _ => rfl) rfl
    hg.below0 (ok_one (by kernel_rfl) rfl (okWide_bool_mk Try.underlying4 _))⟩

theorem over : Rows.marksCutRow.holds Try.pinned (OpenSpec.ofChange Rows.marksCutSpec) :=
  OpenClaim.holds_of_wide 4 Try.f4 rfl rfl rfl rfl rfl rfl rfl ⟨rfl, rfl, rfl, rfl, rfl⟩ rfl rfl rfl rfl rfl (by kernel_rfl) Try.func4 (by kernel_rfl)
    (of_decide_eq_true (by kernel_rfl)) (by unfold Func.isWrapper; first | (rw [if_pos (by decide +kernel)]; kernel_rfl) | (rw [if_neg (by decide +kernel)]; exact ⟨rfl, rfl⟩))
    (fun os started H enc _ => lifted os started H enc)

theorem proved : Rows.MarksCutSaid := over
#print axioms proved

end Go.Proofs.Ythajdajhclpaaaa.marksCut
