/- The statement RetainDrops is proved: for all times, positions and times the law returns true, without conditions. -/
import Derived.Test.YtkpmfbcepkpnpaaRows
import Derived.Test.YtkpmfbcepkpnpaaDropsW
import Derived.Test.YtkpmfbcepkpnpaaRowKit
import Derived.OpenShut
namespace Go.Proofs.Ytkpmfbcepkpnpaa.retainDrops
open Go.ChangeShapes Go.WideShapes Go.ChangeAt Go.RowKit

theorem own : ownKnob Try.prog.godebug = none := by kernel_rfl

theorem cells_int : Try.prog.cellsOf 3 = 1 := by kernel_rfl
theorem open_sizes {H : Type} {enc : TypeId × Value → H} {W : World} {a0 : Option Addr} {m cap fuel : Nat} {d : DataW H} {p : List MemPlace}
    (h : DataW.trod enc Try.prog W 0 (fun _ => true) true fuel 42 [.slice a0 m cap] = some (d, p)) (hlt : ∀ x ∈ p, x.block < W.heap.size) :
    ∃ ss : List Int, ss.length = m ∧ (0 < m → ∃ b off, a0 = some ⟨b, off, none⟩ ∧ Came W b off (ss.map (Value.int .i64))) ∧ (a0 = none → cap = 0) := by
  rcases open_ints Try.underlying42 Try.underlying3 cells_int h with ⟨hcs, _⟩ | ⟨a, len', cap', zs, hcs, _, hl, hm, hz, hx, hi, _⟩
  · injection hcs with hcs
    injection hcs with h1 h2 h3
    subst h1 h2 h3
    exact ⟨[], rfl, fun h => absurd h (by simp), fun _ => rfl⟩
  · injection hcs with hcs
    injection hcs with h1 h2 h3
    subst h1 h2
    simp only [if_true] at hz
    refine ⟨zs.take m, by rw [List.length_take]; omega, fun hpos => ?_, fun h => by cases h⟩
    obtain ⟨b, off, spot⟩ := a
    have hspot : spot = none := by simpa [Addr.add] using World.cell?_spot (hi 0 (by omega))
    subst hspot
    have hadd : ∀ j, (⟨b, off, none⟩ : Addr).add j = ⟨b, off + j, none⟩ := by intro j; unfold Addr.add; split <;> simp_all
    have hb : b < W.heap.size := by
      refine hlt (.cell b off) ?_
      simp only [Prod.mk.injEq] at hx
      rw [hx.2]
      exact MemPlace.mem_row.2 ⟨0, by omega, by simp⟩
    refine ⟨b, off, rfl, hb, fun j u hu => ?_⟩
    have hj : j < m := by
      have := (List.getElem?_eq_some_iff.1 hu).1
      simp only [List.length_map, List.length_take] at this
      omega
    have := hi j (by omega)
    rw [hadd] at this
    rw [this]
    rw [List.getElem?_map, List.getElem?_take_of_lt hj, List.getElem?_eq_getElem (by omega)] at hu
    rw [List.getD_eq_getElem?_getD, List.getElem?_eq_getElem (by omega)]
    simpa using hu

theorem walk (A : Option Addr) (m cap : Nat) (zs : List Int) (pos time : Int) (w : World) (hm : zs.length = m) (hA : 0 < m → ∃ b off, A = some ⟨b, off, none⟩ ∧ Came w b off (zs.map (Value.int .i64))) (hn : A = none → cap = 0) :
    Calls Try.prog 4 #[.slice A m cap, .int .i64 pos, .int .i64 time] w fun e w' => e = .returned (.bool true) ∧ Fr [] w w' := by
  subst hm
  by_cases h : zs.length > 100
  · exact drops_out A zs.length cap pos time w h
  · exact drops_main A cap zs pos time w (by omega) hA hn

set_option maxRecDepth 100000 in
theorem lifted (os : Os) (started : os.Started) (H : Type) (enc : TypeId × Value → H) :
    ReturnsInHanded {} Try.checked os 4 .any (Rows.retainDropsSpec.pre6 enc Try.prog Try.f4 Rows.retainDropsRow.domain false) (Rows.retainDropsSpec.post enc Try.prog Try.f4 false true false false) := by
  refine returnsInHanded_of_change (C := Try.checked) own started (by kernel_rfl) Try.func4
    (ChangeSpec.witness6 (enc := enc) (C := Try.checked) false ⟨#[], #[.slice none 0 0, .int .i64 0, .int .i64 0], []⟩ 8 (by kernel_rfl) (by kernel_rfl) (by kernel_rfl) (by kernel_rfl)) ?_
  intro W base args ds gs before hval0 hW hcnd _
  have hval : ∀ (j : Nat) t v, Try.f4.params[j]? = some t → args[j]? = some v → Value.okWide Try.prog W .any base t v := hval0
  have hW' := hW
  obtain ⟨p, q, hA0, hV, rfl, hfz, hnd⟩ := hW
  have hA : DataW.TrodAll enc Try.prog W 0 (fun _ => true) true Try.f4.params.toList args.toList ds p := hA0
  rw [Try.params4] at hA hval
  obtain ⟨v0, vs0, d0, ds0, p0, q0, hargs, rfl, rfl, h0, r0⟩ := trodAll_cons hA
  obtain ⟨v1, vs1, d1, ds1, p1, q1, rfl, rfl, rfl, h1, r1⟩ := trodAll_cons r0
  obtain ⟨v2, vs2, d2, ds2, p2, q2, rfl, rfl, rfl, h2, r2⟩ := trodAll_cons r1
  obtain ⟨rfl, rfl, rfl⟩ := trodAll_nil r2
  obtain rfl : args = #[v0, v1, v2] := by cases args; simp_all
  obtain ⟨rfl, rfl⟩ := trodVars_none hV
  obtain ⟨a1, rfl, rfl, rfl, w1⟩ := open_int Try.underlying3 (hval 1 3 v1 rfl rfl) h1
  obtain ⟨a2, rfl, rfl, rfl, w2⟩ := open_int Try.underlying3 (hval 2 3 v2 rfl rfl) h2
  obtain ⟨b0, m, c0, rfl⟩ := okWide_slice Try.underlying42 (hval 0 42 v0 rfl rfl)
  obtain ⟨fuel, hf⟩ := h0
  obtain ⟨zs, hl, hc, hn⟩ := open_sizes (by simpa [Value.cells] using hf) (fun x hx => hW'.lt x (by simp [hx]))
  clear hA0 hval0
  refine (walk b0 m c0 zs a1 a2 W hl hc hn).mono fun e W' ⟨he, hg⟩ => ?_
  subst he
  exact ⟨_, rfl, law_close (by kernel_rfl) Try.underlying4 (by kernel_rfl) (by
    rw [Try.params4]
    intro t ht
    simp at ht
    rcases ht with rfl | rfl | rfl <;> exact ⟨by kernel_rfl, of_decide_eq_true (by kernel_rfl)⟩) rfl hW' rfl hg.below0⟩

theorem over : Rows.retainDropsRow.holds Try.pinned (OpenSpec.ofChange Rows.retainDropsSpec) :=
  OpenClaim.holds_of_wide 4 Try.f4 rfl rfl rfl rfl rfl rfl rfl ⟨rfl, rfl, rfl, rfl, rfl⟩ rfl rfl rfl rfl rfl (by kernel_rfl) Try.func4 (by kernel_rfl)
    (of_decide_eq_true (by kernel_rfl)) (by unfold Func.isWrapper; first | (rw [if_pos (by decide +kernel)]; kernel_rfl) | (rw [if_neg (by decide +kernel)]; exact ⟨rfl, rfl⟩))
    (fun os started H enc _ => lifted os started H enc)

theorem proved : Rows.RetainDropsSaid := over
#print axioms proved
end Go.Proofs.Ytkpmfbcepkpnpaa.retainDrops
