/- Walks of package marks, third part: slices.Repeat, New. -/
import Derived.Test.YthajdajhclpaaaaDoorMk2
import Derived.Test.YthajdajhclpaaaaDoorShelf
import Derived.Deep.RegionLaw
namespace Go.Proofs.YthajdajhclpaaaaDoor
open Go.RowKit

theorem info_input : (Tryd.prog.info? 93).map (fun i => (i.zero, i.size, i.bytes)) = some (some (.agg #[.int .i64 0, .bool false]), 2, 16) := by kernel_rfl

theorem size_input : (Tryd.prog.info? 93).map (·.size) = some 2 := by kernel_rfl
theorem flat_take (ins : List (Int × Bool)) (k : Nat) : (flat ins).take (k * 2) = flat (ins.take k) := by
  induction ins generalizing k with
  | nil => simp [flat]
  | cons x l ih =>
    cases k with
    | zero => simp [flat]
    | succ k =>
      have := ih k
      have e1 : (k + 1) * 2 = k * 2 + 1 + 1 := by omega
      rw [e1]
      simpa [flat] using this
theorem flat_drop (ins : List (Int × Bool)) (k : Nat) : (flat ins).drop (k * 2) = flat (ins.drop k) := by
  induction ins generalizing k with
  | nil => simp [flat]
  | cons x l ih =>
    cases k with
    | zero => simp [flat]
    | succ k =>
      have := ih k
      have e1 : (k + 1) * 2 = k * 2 + 1 + 1 := by omega
      rw [e1]
      simpa [flat] using this
theorem flat_app (a b : List (Int × Bool)) : flat (a ++ b) = flat a ++ flat b := by simp [flat]
theorem flat_one (l : List (Int × Bool)) : ∀ u ∈ flat l, u.oneCell' = true := by
  intro u hu
  simp only [flat, List.mem_flatMap] at hu
  obtain ⟨x, _, hu⟩ := hu
  simp at hu
  rcases hu with rfl | rfl <;> rfl
/-- A row of which m elements are x already and the rest z: m' more are laid behind. -/
theorem splice_flat (x z : Int × Bool) (n m m' : Nat) (_h : m + m' ≤ n) :
    splice (flat (List.replicate m x ++ List.replicate (n - m) z)) (m * 2) (flat (List.replicate m' x)) = flat (List.replicate (m + m') x ++ List.replicate (n - (m + m')) z) := by
  unfold splice
  rw [flat_take, flat_len, show m * 2 + 2 * (List.replicate m' x).length = (m + m') * 2 by simp; omega, flat_drop, ← flat_app, ← flat_app]
  congr 1
  rw [List.take_append, List.drop_append]
  simp only [List.length_replicate, List.take_replicate, List.drop_replicate, Nat.min_self, Nat.sub_self]
  rw [show m - (m + m') = 0 by omega]
  simp only [Nat.zero_min, List.replicate_zero, List.append_nil, List.nil_append]
  rw [← List.append_assoc, List.replicate_append_replicate, show m + m' - m = m' by omega, show n - m - m' = n - (m + m') by omega]

set_option maxRecDepth 100000 in
set_option maxHeartbeats 1000000 in
theorem repeat_any (b : Nat) (x : Int × Bool) (n : Nat) (hn : n ≤ 200) (w : World) (hx : Row w b 93 (flat [x])) :
    Calls Tryd.prog 78 #[.slice (some ⟨b, 0, none⟩) 1 1, .int .i64 n] w fun e w' => ∃ g, e = .returned (.slice (some ⟨g, 0, none⟩) n n) ∧ w.heap.size ≤ g ∧ Row w' g 93 (flat (List.replicate n x)) ∧ Fr [] w w' := by
  have hmul : Calls Tryd.prog 92 #[.int .u64 1, .int .u64 n] w fun e w' => e = .returned (.tuple #[.int .u64 0, .int .u64 n]) ∧ w' = w := by
    have := Tryd.bits_Mul 1 n (by omega) (by omega) w
    rw [show 1 * n / 18446744073709551616 = 0 by omega, show 1 * n % 18446744073709551616 = n by omega] at this
    exact this
  have hmk := fun W => run_make_rowN (P := Tryd.prog) 90 93 (.agg #[.int .i64 0, .bool false]) 2 16 Tryd.underlying90 info_input .i64 .i64 n n (Nat.le_refl _) (by omega) (by omega) W
  have Hm := Lib.hid hmul
  have hd1 : decide ((n : Int) < 0) = false := by simp
  have hd2 : decide ((9223372036854775807 : Int) < (n : Int)) = false := by simp; omega
  have Hx := Lib.hid hx
  clear hmul hx
  go_enter Tryd.func78, Tryd.ntmps78
  have hmd : (madeCells #[Value.int .i64 0, Value.bool false] (n * 2)) = (flat (List.replicate n (0, false))).toArray := by
    have h := made_flat (fun x : Int × Bool => [.int .i64 x.1, .bool x.2]) (0, false) #[Value.int .i64 0, Value.bool false] rfl (by simp) n
    unfold flat
    rw [← h, Array.toArray_toList]
    rfl
  have Hmd := Lib.hid hmd
  clear hmd
  have hg0 : Row (w.alloc (.cells (madeCells #[Value.int .i64 0, Value.bool false] (n * 2)) 93)) w.heap.size 93 (flat (List.replicate n (0, false))) := by
    rw [Hmd.out]; exact Row.new _ _ _
  have hcp := run_copyk (P := Tryd.prog) _ 90 90 3 93 w.heap.size 0 n n ⟨b, 0, none⟩ 1 1 2 (Nat.min 1 n) _ _ (flat (List.replicate (Nat.min 1 n) x)) Tryd.underlying90 size_input hg0 rfl
    (by rw [flat_len, List.length_replicate]; omega)
    (by
      intro j v hj
      have e1 : (⟨b, 0, none⟩ : Addr).add j = ⟨b, j, none⟩ := by unfold Addr.add; split <;> simp_all
      rw [e1, World.cell?_alloc_lt _ _ _ Hx.out.lt, Hx.out.cell]
      rcases Nat.eq_zero_or_pos n with h0 | h0
      · subst h0; simp [flat] at hj
      · rw [show Nat.min 1 n = 1 by simp [Nat.min_def]; omega] at hj
        exact hj)
    (by rw [flat_len, flat_len]; simp [Nat.min_def]; split <;> omega) (flat_one _)
  have hr1 := (show Row (World.setRow _ w.heap.size _) _ _ _ from hg0.over (splice (flat (List.replicate n (0, false))) 0 (flat (List.replicate (Nat.min 1 n) x))).toArray)
  have hf1 : Fr [] w ((w.alloc (.cells (madeCells #[Value.int .i64 0, Value.bool false] (n * 2)) 93)).setRow w.heap.size (splice (flat (List.replicate n (0, false))) 0 (flat (List.replicate (Nat.min 1 n) x))).toArray) :=
    ((Fr.refl [] w).alloc _).then (fr_setRow _ _ _) (by simp)
  have Hr1 := Lib.hid hr1
  have Hf1 := Lib.hid hf1
  clear hr1 hf1 hg0
  generalize hW : ((w.alloc (.cells (madeCells #[Value.int .i64 0, Value.bool false] (n * 2)) 93)).setRow w.heap.size (splice (flat (List.replicate n (0, false))) 0 (flat (List.replicate (Nat.min 1 n) x))).toArray) = W1 at *
  clear hW
  have hmn : Nat.min 1 n ≤ n := Nat.min_le_right _ _
  go_wp2_with (go_at_call 92; refine Hm.out.mono ?_; rintro e w' ⟨rfl, hw⟩; obtain rfl := hw.symm)
  go_loopw [8] (fun v wr => ∃ m : Nat, v = .int .i64 m ∧ m ≤ n ∧ Row wr w.heap.size 93 (flat (List.replicate m x ++ List.replicate (n - m) (0, false))) ∧ Fr [] w wr ∧ (0 < n → 0 < m)) (fun v _ => n - (intOf v).toNat)
  case atStart =>
    refine ⟨Nat.min 1 n, rfl, hmn, ?_, Hf1.out, fun h => by simp [Nat.min_def]; split <;> omega⟩
    have e := splice_flat x (0, false) n 0 (Nat.min 1 n) (by omega)
    simp only [Nat.zero_mul, Nat.sub_zero, List.replicate_zero, List.nil_append, Nat.zero_add] at e
    rw [← e]
    exact Hr1.out
  case round =>
    obtain ⟨m, rfl, hm, hr, hf, hp⟩ := hrel
    have hz := hf.size
    by_cases hlt : m < n
    · have hp' := hp (by omega)
      have Hr := Lib.hid hr
      have Hf := Lib.hid hf
      have e1 := splice_flat x (0, false) n m (Nat.min m (n - m)) (by have : Nat.min m (n - m) ≤ n - m := Nat.min_le_right _ _; omega)
      have E1 := Lib.hid e1
      have hk : Nat.min m (n - m) ≤ n - m := Nat.min_le_right _ _
      have hk0 : 0 < Nat.min m (n - m) := Nat.lt_min.2 ⟨hp', by omega⟩
      have hk1 : Nat.min m (n - m) ≤ m := Nat.min_le_left _ _
      generalize hkk : Nat.min m (n - m) = k at *
      have Hkk := Lib.hid hkk
      clear hr hf e1 hp hkk
      have hcp := run_copyk (P := Tryd.prog) wr.drew 90 90 3 93 w.heap.size (m * 2) (n - m) (n - m) ⟨w.heap.size, 0, none⟩ m n 2 k _ _ (flat (List.replicate k x)) Tryd.underlying90 size_input Hr.out.drew Hkk.out.symm
        (by rw [flat_len, List.length_replicate]; omega)
        (by
          intro j v hj
          have e1 : (⟨w.heap.size, 0, none⟩ : Addr).add j = ⟨w.heap.size, j, none⟩ := by unfold Addr.add; split <;> simp_all
          rw [e1, Hr.out.drew.cell]
          have hj' : j < (flat (List.replicate k x)).length := (List.getElem?_eq_some_iff.1 hj).1
          rw [flat_len, List.length_replicate] at hj'
          rw [flat_app, List.getElem?_append_left (by rw [flat_len, List.length_replicate]; omega)]
          have ek : List.replicate k x = (List.replicate m x).take k := by rw [List.take_replicate, Nat.min_eq_left hk1]
          rw [ek, ← flat_take, List.getElem?_take, if_pos (by omega)] at hj
          exact hj)
        (by rw [flat_len, flat_len]; simp; omega) (flat_one _)
      have hr2 := (show Row (World.setRow _ w.heap.size _) _ _ _ from Hr.out.drew.over (splice (flat (List.replicate m x ++ List.replicate (n - m) (0, false))) (m * 2) (flat (List.replicate k x))).toArray)
      have hf2 : Fr [] w (wr.drew.setRow w.heap.size (splice (flat (List.replicate m x ++ List.replicate (n - m) (0, false))) (m * 2) (flat (List.replicate k x))).toArray) :=
        Hf.out.drew.then (fr_setRow _ _ _) (by simp)
      have Hr2 := Lib.hid hr2
      have Hf2 := Lib.hid hf2
      clear hr2 hf2
      generalize hW : (wr.drew.setRow w.heap.size (splice (flat (List.replicate m x ++ List.replicate (n - m) (0, false))) (m * 2) (flat (List.replicate k x))).toArray) = W2 at *
      clear hW
      go_wp2_with fail
      go_region
      go_roundw
      case rel =>
        repeat apply Exists.intro
        exact ⟨⟨m + k, by go_num, by omega, by rw [← E1.out]; exact Hr2.out, Hf2.out, by omega⟩, rfl⟩
      case measure => simp [intOf]; omega
    · go_wp2
      go_ret
      have e : n - m = 0 := by omega
      have e2 : m = n := by omega
      rw [e, e2, List.replicate_zero, List.append_nil] at hr
      exact ⟨_, rfl, Nat.le_refl _, hr, hf⟩

theorem repeat_int (b : Nat) (x : Int × Bool) (n : Int) (h0 : 0 ≤ n) (hn : n ≤ 200) (w : World) (hx : Row w b 93 (flat [x])) :
    Calls Tryd.prog 78 #[.slice (some ⟨b, 0, none⟩) 1 1, .int .i64 n] w fun e w' => ∃ g, e = .returned (.slice (some ⟨g, 0, none⟩) n.toNat n.toNat) ∧ w.heap.size ≤ g ∧ Row w' g 93 (flat (List.replicate n.toNat x)) ∧ Fr [] w w' := by
  have h := repeat_any b x n.toNat (by omega) w hx
  rw [Int.toNat_of_nonneg h0] at h
  exact h

/-- How many inputs a new tracker has. -/
def cnt (n : Int) : Nat := (min (max n 0) 200).toNat

set_option maxRecDepth 100000 in
theorem new_all (n : Int) (w : World) :
    Calls Tryd.prog 47 #[.int .i64 n] w fun e w' => ∃ a g, e = .returned (.pointer (some ⟨a, 0, none⟩)) ∧ w.heap.size ≤ a ∧ w.heap.size ≤ g ∧ a ≠ g ∧
      Trk w' a (some ⟨g, 0, none⟩) (cnt n) (List.replicate (cnt n) (-1, false)) (-1) ∧ Fr [] w w' ∧ g < w'.heap.size := by
  have hk : cnt n ≤ 200 := by unfold cnt; omega
  have fin : ∀ (k : Int) (g : Nat) (W1 w1 : World), k.toNat = cnt n → Fr [] w W1 → W1.heap.size ≤ g → Row w1 g 93 (flat (List.replicate k.toNat (-1, false))) → Fr [] W1 w1 →
      ∃ a g', Ending.returned (.pointer (some ⟨w1.heap.size, 0, none⟩)) = .returned (.pointer (some ⟨a, 0, none⟩)) ∧ w.heap.size ≤ a ∧ w.heap.size ≤ g' ∧ a ≠ g' ∧
      Trk (w1.alloc (.cells #[.slice (some ⟨g, 0, none⟩) k.toNat k.toNat, .int .i64 (-1)] 95)) a (some ⟨g', 0, none⟩) (cnt n) (List.replicate (cnt n) (-1, false)) (-1) ∧ Fr [] w (w1.alloc (.cells #[.slice (some ⟨g, 0, none⟩) k.toNat k.toNat, .int .i64 (-1)] 95)) ∧ g' < (w1.alloc (.cells #[.slice (some ⟨g, 0, none⟩) k.toNat k.toNat, .int .i64 (-1)] 95)).heap.size := by
    intro k g W1 w1 hkk hf1 hg hr hf2
    rw [hkk] at hr ⊢
    refine ⟨w1.heap.size, g, rfl, Nat.le_trans hf1.size hf2.size, Nat.le_trans hf1.size hg, fun e => by have := hr.lt; omega, ⟨?_, .inr ⟨g, [], rfl, ?_⟩, by simp; omega⟩, ((hf1.trans hf2)).alloc _, by have := hr.lt; simp; omega⟩
    · rw [List.length_replicate]
      exact Row.new _ _ _
    · rw [List.append_nil]
      exact hr.alloc _
  have hfin := Lib.hid fin
  clear fin
  have hx0 : Row (w.alloc (.cells #[.int .i64 (-1), .bool false] 93)) w.heap.size 93 (flat [(-1, false)]) := Row.new _ _ _
  rcases (show n < 0 ∨ (0 ≤ n ∧ n ≤ 200) ∨ 200 < n by omega) with h | ⟨h, h'⟩ | h
  · have HR := Lib.hid (repeat_int _ (-1, false) 0 (by omega) (by omega) _ hx0)
    have hc : (0 : Int).toNat = cnt n := by unfold cnt; omega
    have hmm : min (max n 0) 200 = 0 := by omega
    have Hc := Lib.hid hc
    clear hc hx0
    go_enter Tryd.func47, Tryd.ntmps47
    go_wp2_with fail
    all_goals
      refine HR.out.mono ?_
      intro e w1 hq
      obtain ⟨g, he, hg, hr, hf⟩ := hq
      subst he
      have hf' := hfin.out 0 g _ w1 Hc.out ((Fr.refl _ _).alloc _) hg hr hf
      have Hf := Lib.hid hf'
      clear hg hr hf hf'
      go_wp2_with fail
      go_ret
      exact Hf.out
  · have HR := Lib.hid (repeat_int _ (-1, false) n (by omega) (by omega) _ hx0)
    have hc : n.toNat = cnt n := by unfold cnt; omega
    have hmm : min (max n 0) 200 = n := by omega
    have Hc := Lib.hid hc
    clear hc hx0
    go_enter Tryd.func47, Tryd.ntmps47
    go_wp2_with fail
    all_goals
      refine HR.out.mono ?_
      intro e w1 hq
      obtain ⟨g, he, hg, hr, hf⟩ := hq
      subst he
      have hf' := hfin.out n g _ w1 Hc.out ((Fr.refl _ _).alloc _) hg hr hf
      have Hf := Lib.hid hf'
      clear hg hr hf hf'
      go_wp2_with fail
      go_ret
      exact Hf.out
  · have HR := Lib.hid (repeat_int _ (-1, false) 200 (by omega) (by omega) _ hx0)
    have hc : (200 : Int).toNat = cnt n := by unfold cnt; omega
    have hmm : min (max n 0) 200 = 200 := by omega
    have Hc := Lib.hid hc
    clear hc hx0
    go_enter Tryd.func47, Tryd.ntmps47
    go_wp2_with fail
    all_goals
      refine HR.out.mono ?_
      intro e w1 hq
      obtain ⟨g, he, hg, hr, hf⟩ := hq
      subst he
      have hf' := hfin.out 200 g _ w1 Hc.out ((Fr.refl _ _).alloc _) hg hr hf
      have Hf := Lib.hid hf'
      clear hg hr hf hf'
      go_wp2_with fail
      go_ret
      exact Hf.out
theorem new_any (n : Int) (w : World) :
    Calls Tryd.prog 47 #[.int .i64 n] w fun e w' => ∃ a g, e = .returned (.pointer (some ⟨a, 0, none⟩)) ∧ w.heap.size ≤ a ∧ w.heap.size ≤ g ∧ a ≠ g ∧
      Trk w' a (some ⟨g, 0, none⟩) (cnt n) (List.replicate (cnt n) (-1, false)) (-1) ∧ Fr [] w w' :=
  (new_all n w).mono fun e w' ⟨a, g, h1, h2, h3, h4, h5, h6, _⟩ => ⟨a, g, h1, h2, h3, h4, h5, h6⟩

end Go.Proofs.YthajdajhclpaaaaDoor
