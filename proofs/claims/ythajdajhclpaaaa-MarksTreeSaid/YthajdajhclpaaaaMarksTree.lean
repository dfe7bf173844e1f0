/- The statement MarksTree is proved: for all sizes and operations the law returns true, without conditions. -/
import Derived.Test.YthajdajhclpaaaaRows
import Derived.Test.YthajdajhclpaaaaTreeW
import Derived.Test.YthajdajhclpaaaaOps
namespace Go.Proofs.Ythajdajhclpaaaa.marksTree
open Go.ChangeShapes Go.WideShapes Go.ChangeAt Go.RowKit

theorem own : ownKnob Try.prog.godebug = none := by kernel_rfl

set_option maxRecDepth 100000 in
theorem tree_out (A0 A1 : Option Addr) (m c0 len cap : Nat) (w : World) (h : m < 1 ∨ m > 8 ∨ len > 100) :
    Calls Try.prog 3 #[.slice A0 m c0, .slice A1 len cap] w fun e w' => e = .returned (.bool true) ∧ Fr [] w w' := by
  have hsm := Lib.hid (small_any w)
  rcases (show m < 1 ∨ (1 ≤ m ∧ m > 8) ∨ (1 ≤ m ∧ m ≤ 8 ∧ len > 100) by omega) with h1 | ⟨h1, h2⟩ | ⟨h1, h2, h3⟩
  all_goals
    clear h
    go_enter Try.func3, Try.ntmps3
    go_wp2_with (go_at_call 6; refine hsm.out.mono ?_; rintro e w0 ⟨rfl, hf⟩; have Hf := Lib.hid hf; clear hf)
    go_ret
    exact ⟨rfl, Hf.out⟩

theorem walk (A0 A1 : Option Addr) (m c0 len cap : Nat) (ss : List Int) (l : List (Int × Int × Int)) (w : World) (hs : ss.length = m) (hl : l.length = len)
    (hcs : 0 < m → ∃ b off, A0 = some ⟨b, off, none⟩ ∧ Came w b off (ss.map (Value.int .i64)))
    (hc : 0 < l.length → ∃ b off, A1 = some ⟨b, off, none⟩ ∧ Came w b off (opCells l)) :
    Calls Try.prog 3 #[.slice A0 m c0, .slice A1 len cap] w fun e w' => e = .returned (.bool true) ∧ Fr [] w w' := by
  subst hl hs
  by_cases h : ss.length < 1 ∨ ss.length > 8 ∨ l.length > 100
  · exact tree_out A0 A1 ss.length c0 l.length cap w h
  · obtain ⟨b, off, rfl, hca⟩ := hcs (by omega)
    exact tree_main b off c0 ss A1 cap l w (by omega) (by omega) (by omega) hca hc

theorem cells_int : Try.prog.cellsOf 3 = 1 := by kernel_rfl
theorem open_sizes {H : Type} {enc : TypeId × Value → H} {W : World} {a0 : Option Addr} {m cap fuel : Nat} {d : DataW H} {p : List MemPlace}
    (h : DataW.trod enc Try.prog W 0 (fun _ => true) true fuel 22 [.slice a0 m cap] = some (d, p)) (hlt : ∀ x ∈ p, x.block < W.heap.size) :
    ∃ ss : List Int, ss.length = m ∧ (0 < m → ∃ b off, a0 = some ⟨b, off, none⟩ ∧ Came W b off (ss.map (Value.int .i64))) := by
  rcases open_ints Try.underlying22 Try.underlying3 cells_int h with ⟨hcs, _⟩ | ⟨a, len', cap', zs, hcs, _, hl, hm, hz, hx, hi, _⟩
  · injection hcs with hcs
    injection hcs with h1 h2 h3
    subst h1 h2
    exact ⟨[], rfl, fun h => absurd h (by simp)⟩
  · injection hcs with hcs
    injection hcs with h1 h2 h3
    subst h1 h2
    simp only [if_true] at hz
    refine ⟨zs.take m, by rw [List.length_take]; omega, fun hpos => ?_⟩
    obtain ⟨b, off, spot⟩ := a
    have hspot : spot = none := by simpa [Addr.add] using World.cell?_spot (hi 0 (by omega))
    subst hspot
    have hadd : ∀ j, (⟨b, off, none⟩ : Addr).add j = ⟨b, off + j, none⟩ := by intro j; unfold Addr.add; split <;> simp_all
    have hb : b < W.heap.size := by
      refine hlt (.cell b off) ?_
      simp only [Prod.mk.injEq] at hx
      rw [hx.2]
      exact MemPlace.mem_row.2 ⟨0, by omega, by simp⟩
    refine ⟨b, off, rfl, hb, fun j u hu => ?_⟩
    have hj : j < m := by
      have := (List.getElem?_eq_some_iff.1 hu).1
      simp only [List.length_map, List.length_take] at this
      omega
    have := hi j (by omega)
    rw [hadd] at this
    rw [this]
    rw [List.getElem?_map, List.getElem?_take_of_lt hj, List.getElem?_eq_getElem (by omega)] at hu
    rw [List.getD_eq_getElem?_getD, List.getElem?_eq_getElem (by omega)]
    simpa using hu

set_option maxRecDepth 100000 in
theorem lifted (os : Os) (started : os.Started) (H : Type) (enc : TypeId × Value → H) :
    ReturnsInHanded {} Try.checked os 3 .any (Rows.marksTreeSpec.pre6 enc Try.prog Try.f3 Rows.marksTreeRow.domain false) (Rows.marksTreeSpec.post enc Try.prog Try.f3 false true false false) := by
  refine returnsInHanded_of_change (C := Try.checked) own started (by kernel_rfl) Try.func3
    (ChangeSpec.witness6 (enc := enc) (C := Try.checked) false ⟨#[], #[.slice none 0 0, .slice none 0 0], []⟩ 8 (by kernel_rfl) (by kernel_rfl) (by kernel_rfl) (by kernel_rfl)) ?_
  intro W base args ds gs before hval0 hW hcnd _
  have hval : ∀ (j : Nat) t v, Try.f3.params[j]? = some t → args[j]? = some v → Value.okWide Try.prog W .any base t v := hval0
  have hW' := hW
  obtain ⟨p, q, hA0, hV, rfl, hfz, hnd⟩ := hW
  have hA : DataW.TrodAll enc Try.prog W 0 (fun _ => true) true Try.f3.params.toList args.toList ds p := hA0
  rw [Try.params3] at hA hval
  obtain ⟨v0, v1, d0, d1, p0, p1, rfl, rfl, rfl, h0, h1⟩ := trodAll_two hA
  obtain ⟨rfl, rfl⟩ := trodVars_none hV
  obtain ⟨b0, m, c0, rfl⟩ := okWide_slice Try.underlying22 (hval 0 22 v0 rfl rfl)
  obtain ⟨fuel0, hf0⟩ := h0
  obtain ⟨a0, len, cap, rfl⟩ := okWide_slice Try.underlying23 (hval 1 23 v1 rfl rfl)
  obtain ⟨fuel, hf⟩ := h1
  obtain ⟨l, hl, hc⟩ := open_ops (by simpa [Value.cells] using hf) (fun x hx => hW'.lt x (by simp [hx]))
  obtain ⟨ss, hs, hcs⟩ := open_sizes (by simpa [Value.cells] using hf0) (fun x hx => hW'.lt x (by simp [hx]))
  clear hA0 hval0
  refine (walk b0 a0 m c0 len cap ss l W hs hl hcs hc).mono fun e W' ⟨he, hg⟩ => ?_
  subst he
  exact ⟨_, rfl, law_close laidOut Try.underlying4 (by kernel_rfl) (by
    rw [Try.params3]
    intro t ht
    simp at ht
    rcases ht with rfl | rfl <;> exact ⟨by kernel_rfl, of_decide_eq_true (by kernel_rfl)⟩) rfl hW' rfl hg.below0⟩

theorem over : Rows.marksTreeRow.holds Try.pinned (OpenSpec.ofChange Rows.marksTreeSpec) :=
  OpenClaim.holds_of_wide 3 Try.f3 rfl rfl rfl rfl rfl rfl rfl ⟨rfl, rfl, rfl, rfl, rfl⟩ rfl rfl rfl rfl rfl (by kernel_rfl) Try.func3 (by kernel_rfl)
    (of_decide_eq_true (by kernel_rfl)) (by unfold Func.isWrapper; first | (rw [if_pos (by decide +kernel)]; kernel_rfl) | (rw [if_neg (by decide +kernel)]; exact ⟨rfl, rfl⟩))
    (fun os started H enc _ => lifted os started H enc)

theorem proved : Rows.MarksTreeSaid := over
#print axioms proved
end Go.Proofs.Ythajdajhclpaaaa.marksTree
