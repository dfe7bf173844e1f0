/- The walk of MarksRise. -/
import Derived.Test.YthajdajhclpaaaaRisePl
namespace Go.Proofs.Ythajdajhclpaaaa
open Go.RowKit

def falses (n : Nat) : Array Value := ((List.replicate n false).map Value.bool).toArray
def zeros (n : Nat) : Array Value := ((List.replicate n (0 : Int)).map (Value.int .i64)).toArray
theorem info_bool : (Try.prog.info? 4).map (fun i => (i.zero, i.size, i.bytes)) = some (some (.bool false), 1, 1) := by kernel_rfl
theorem make_bools (W : World) : (Instr.makeSlice 36 (.int .i64 50) (.int .i64 50)).run Try.prog W = .ok (.slice (some ⟨W.heap.size, 0, none⟩) 50 50) (W.alloc (.cells (falses 50) 4)) := by
  have h := run_make_rowN (P := Try.prog) 36 4 (.bool false) 1 1 Try.underlying36 info_bool .i64 .i64 50 50 (Nat.le_refl _) (by omega) (by omega) W
  rw [show madeCells (Value.bool false).cells (50 * 1) = falses 50 from by
    apply Array.ext'
    rw [show (Value.bool false).cells = #[Value.bool false] from rfl, toList_madeCells_one]
    simp [falses]] at h
  exact h
theorem make_ints (W : World) : (Instr.makeSlice 22 (.int .i64 50) (.int .i64 50)).run Try.prog W = .ok (.slice (some ⟨W.heap.size, 0, none⟩) 50 50) (W.alloc (.cells (zeros 50) 3)) := by
  have h := run_make_rowN (P := Try.prog) 22 3 (.int .i64 0) 1 8 Try.underlying22 info_int .i64 .i64 50 50 (Nat.le_refl _) (by omega) (by omega) W
  rw [show madeCells (Value.int .i64 0).cells (50 * 1) = zeros 50 from by
    apply Array.ext'
    rw [show (Value.int .i64 0).cells = #[Value.int .i64 0] from rfl, toList_madeCells_one]
    simp [zeros]] at h
  exact h

theorem getD_rep (n k : Nat) : (List.replicate n false).getD k false = false := by
  rw [List.getD_eq_getElem?_getD, List.getElem?_replicate]
  split <;> rfl
/-- The memory of the law between two operations. -/
structure RMem (w wr : World) (a : Nat) (A : Option Addr) (c gw gb : Nat) (ins : List (Int × Bool)) (com : Int) (W : List Bool) (B : List Int) : Prop where
  trk : Trk wr a A c ins com
  fpn : ∀ k, k ∈ fpA a A → w.heap.size ≤ k
  fpl : ∀ k, k ∈ fpA a A → k < wr.heap.size
  was : Row wr gw 4 (W.map Value.bool)
  bef : Row wr gb 3 (B.map (Value.int .i64))
  gwn : w.heap.size ≤ gw
  gbn : w.heap.size ≤ gb
  fw : gw ∉ fpA a A
  fb : gb ∉ fpA a A
  fr : Fr [] w wr
  lw : W.length = 50
  lb : B.length = 50

section
variable {w wr w' : World} {a : Nat} {A : Option Addr} {c gw gb : Nat} {ins : List (Int × Bool)} {com : Int} {W : List Bool} {B : List Int}
theorem RMem.ne (h : RMem w wr a A c gw gb ins com W B) : gw ≠ gb := h.was.ne h.bef (by decide)
/-- Behind a call that writes to the tracker alone. -/
theorem RMem.call (h : RMem w wr a A c gw gb ins com W B) {ins' : List (Int × Bool)} {com' : Int} (ht : Trk w' a A c ins' com') (hf : Fr (fpA a A) wr w') : RMem w w' a A c gw gb ins' com' W B :=
  ⟨ht, h.fpn, fun k hk => Nat.lt_of_lt_of_le (h.fpl k hk) hf.size, h.was.fr hf h.fw, h.bef.fr hf h.fb, h.gwn, h.gbn, h.fw, h.fb, h.fr.then hf (fun i hi => .inr (h.fpn i hi)), h.lw, h.lb⟩
theorem RMem.quiet (h : RMem w wr a A c gw gb ins com W B) (hf : Fr [] wr w') : RMem w w' a A c gw gb ins com W B :=
  ⟨h.trk.fr hf (by simp), h.fpn, fun k hk => Nat.lt_of_lt_of_le (h.fpl k hk) hf.size, h.was.fr hf (by simp), h.bef.fr hf (by simp), h.gwn, h.gbn, h.fw, h.fb, h.fr.trans hf, h.lw, h.lb⟩
theorem RMem.setW (h : RMem w wr a A c gw gb ins com W B) (k : Nat) : RMem w (wr.setCell ⟨gw, k, none⟩ (.bool true)) a A c gw gb ins com (W.set k true) B := by
  have hf : Fr [gw] wr (wr.setCell ⟨gw, k, none⟩ (.bool true)) := (Fr.refl _ _).set (by simp) _
  refine ⟨h.trk.fr hf (fun j hj => by simp; rintro rfl; exact h.fw hj), h.fpn, fun k hk => Nat.lt_of_lt_of_le (h.fpl k hk) hf.size, ?_, h.bef.fr hf (by simp; exact fun e => h.ne e.symm), h.gwn, h.gbn, h.fw, h.fb, h.fr.set (.inr h.gwn) _, by simpa using h.lw, h.lb⟩
  rw [List.map_set]
  exact h.was.set k _
theorem RMem.setB (h : RMem w wr a A c gw gb ins com W B) (k : Nat) (x : Int) : RMem w (wr.setCell ⟨gb, k, none⟩ (.int .i64 x)) a A c gw gb ins com W (B.set k x) := by
  have hf : Fr [gb] wr (wr.setCell ⟨gb, k, none⟩ (.int .i64 x)) := (Fr.refl _ _).set (by simp) _
  refine ⟨h.trk.fr hf (fun j hj => by simp; rintro rfl; exact h.fb hj), h.fpn, fun k hk => Nat.lt_of_lt_of_le (h.fpl k hk) hf.size, h.was.fr hf (by simp; exact h.ne), ?_, h.gwn, h.gbn, h.fw, h.fb, h.fr.set (.inr h.gbn) _, h.lw, by simpa using h.lb⟩
  rw [List.map_set]
  exact h.bef.set k _
theorem RMem.cw (h : RMem w wr a A c gw gb ins com W B) (k : Nat) (hk : k < 50) : wr.cell? ⟨gw, k, none⟩ = some (.bool (W.getD k false)) := by
  have := h.lw
  rw [h.was.cell]
  simp [show k < W.length by omega]
theorem RMem.cb (h : RMem w wr a A c gw gb ins com W B) (k : Nat) (hk : k < 50) : wr.cell? ⟨gb, k, none⟩ = some (.int .i64 (B.getD k 0)) := by
  have := h.lb
  rw [h.bef.cell]
  simp [show k < B.length by omega]
end

set_option maxRecDepth 100000 in
set_option maxHeartbeats 4000000 in
theorem rise_main (n : Int) (Aa : Option Addr) (cap : Nat) (l : List (Int × Int × Int)) (w : World) (hn0 : 1 ≤ n) (hn1 : n ≤ 50) (hl : l.length ≤ 100) (hc : 0 < l.length → ∃ b off, Aa = some ⟨b, off, none⟩ ∧ Came w b off (opCells l)) :
    Calls Try.prog 5 #[.int .i64 n, .slice Aa l.length cap] w fun e w' => e = .returned (.bool true) ∧ Fr [] w w' := by
  obtain ⟨N, rfl⟩ : ∃ N : Nat, n = N := ⟨n.toNat, by omega⟩
  have hcnt : cnt (N : Int) = N := by unfold cnt; omega
  have hsm := Lib.hid (small_any w)
  have Hc := Lib.hid hc
  clear hc
  have hd1 : decide ((N : Int) < 1) = false := by simp; omega
  have hd2 : decide ((50 : Int) < (N : Int)) = false := by simp; omega
  have hd3 : decide ((100 : Int) < (l.length : Int)) = false := by simp; omega
  have hmb := make_bools
  have hmi := make_ints
  have Hcnt := Lib.hid hcnt
  clear hcnt
  go_enter Try.func5, Try.ntmps5
  go_wp2_with fail
  refine hsm.out.mono ?_
  rintro e w0 ⟨rfl, hf0⟩
  have Hf0 := Lib.hid hf0
  clear hf0
  go_wp2_with fail
  refine (new_any (N : Int) w0).mono ?_
  rintro e w1 ⟨a, g, rfl, ha, hg, hag, T, hf1⟩
  rw [Hcnt.out] at T
  have Hf1 := Lib.hid (Hf0.out.trans hf1)
  have HT := Lib.hid T
  have hz0 := Hf0.out.size
  clear hf1 T
  have hne : ((N : Int) != N) = false := by simp
  go_wp2_with (go_at_call 11; refine (count_any HT.out).mono ?_; rintro e w1' ⟨rfl, rfl⟩)
  have M0 : RMem w ((w1.alloc (.cells (falses 50) 4)).alloc (.cells (zeros 50) 3)) a (some ⟨g, 0, none⟩) N w1.heap.size (w1.heap.size + 1) (List.replicate N (-1, false)) (-1) (List.replicate 50 false) (List.replicate 50 0) := by
    have hl1 := HT.out.row.lt
    have hfpn : ∀ k, k ∈ fpA a (some (⟨g, 0, none⟩ : Addr)) → w.heap.size ≤ k := by intro k hk; simp [fpA] at hk; omega
    have hgl : g < w1.heap.size := by
      obtain ⟨sp, hr⟩ := HT.out.frow (by intro e; have := congrArg List.length e; simp at this; omega)
      exact hr.lt
    have hz1 := Hf1.out.size
    refine ⟨HT.out.fr (((Fr.refl [] w1).alloc _).alloc _) (by simp), hfpn, by intro k hk; simp [fpA] at hk ⊢; omega, ?_, ?_, hz1, by omega, by simp [fpA]; omega, by simp [fpA]; omega, (Hf1.out.alloc _).alloc _, by simp, by simp⟩
    · exact (Row.new w1 4 ((List.replicate 50 false).map Value.bool)).alloc _
    · have h := row_new (w1.alloc (.cells (falses 50) 4)) 3 (zeros 50) (w1.heap.size + 1) (by simp)
      simpa [zeros] using h
  have HM0 := Lib.hid M0
  clear M0
  generalize hgw : w1.heap.size = gw at *
  generalize hgb : gw + 1 = gb at *
  clear hgw hgb HT
  go_loopw [9] (fun v wr => ∃ (k : Nat) (B : List Int), v = .int .i64 k ∧ k ≤ N ∧ RMem w wr a (some ⟨g, 0, none⟩) N gw gb (List.replicate N (-1, false)) (-1) (List.replicate 50 false) B ∧ ∀ j, j < k → B.getD j 0 = -1) (fun v _ => N - (intOf v).toNat)
  case atStart => exact ⟨0, List.replicate 50 0, rfl, Nat.zero_le _, HM0.out, fun j hj => absurd hj (by omega)⟩
  case round =>
    obtain ⟨k, B, rfl, hk, hM, hB⟩ := hrel
    by_cases hlt : k < N
    · have HM := Lib.hid hM
      have HB := Lib.hid hB
      have ck := hM.cb k (by omega)
      have fk := hM.bef.frozen k
      clear hM hB
      go_wp2
      go_roundw
      case rel =>
        refine ⟨k + 1, B.set k (-1), by go_num, by omega, HM.out.setB k (-1), fun j hj => ?_⟩
        have := HM.out.lb
        by_cases e : j = k
        · subst e; simp [show j < B.length by omega]
        · rw [List.getD_eq_getElem?_getD, List.getElem?_set_ne (by omega), ← List.getD_eq_getElem?_getD]
          exact HB.out j (by omega)
      case measure => simp [intOf]; omega
    · have HM := Lib.hid hM
      have hB1 : ∀ j, j < N → B.getD j 0 = (ofB (List.replicate N (-1, false)) j).1 := by
        intro j hj
        rw [ofB_at _ _ (by simpa using hj), hB j (by omega)]
        simp
      have HB := Lib.hid hB1
      clear hM hB hB1 HM0
      go_wp2
      go_loopw [10, 11, 12] (fun cv sv i wr => ∃ (k : Nat) (ins : List (Int × Bool)) (com : Int) (W : List Bool) (B : List Int) (sm : Bool), i = .int .i64 k ∧ k ≤ l.length ∧ cv = .int .i64 com ∧ sv = .bool sm ∧
          RMem w wr a (some ⟨g, 0, none⟩) N gw gb ins com W B ∧ RInv N ins com W sm ∧ ∀ j, j < N → B.getD j 0 = (ofB ins j).1) (fun _ _ i _ => l.length - (intOf i).toNat)
      case atStart => exact ⟨0, _, _, _, B, false, rfl, Nat.zero_le _, rfl, rfl, HM.out, rinv_start N (by omega) _ (getD_rep 50), HB.out⟩
      case round =>
        obtain ⟨q, ins, com, W, B, sm, rfl, hq, rfl, rfl, hM, hI, hB⟩ := hrel
        by_cases hlt : q < l.length
        · obtain ⟨x0, x1, x2⟩ := opCells_at l q hlt
          obtain ⟨b, off, rfl, hca⟩ := Hc.out (by omega)
          have hx : ∀ j u, (opCells l)[j]? = some u → wr.cell? ⟨b, off + j, none⟩ = some u := fun j u hu => by
            rw [hM.fr.cell hca.1 (by simp)]; exact hca.2 j u hu
          have k0 := hx _ _ x0
          have k1 := hx _ _ x1
          have k2 := hx _ _ x2
          rw [← Nat.add_assoc] at k1 k2
          generalize (l[q]).1 = d at *
          generalize (l[q]).2.1 = i at *
          generalize (l[q]).2.2 = m at *
          have hup := step_up ins com d i m
          have hlen := hI.len
          have hcs := do_cases ins com d i m
          have Hxn : Hid (wr.heap.size ∉ fpA a (some (⟨g, 0, none⟩ : Addr))) := fun h => absurd (hM.fpl _ h) (by omega)
          have HM := Lib.hid (hM.quiet ((Fr.refl [] wr).alloc (.cells #[.int .i64 d, .int .i64 i, .int .i64 m] 29)))
          have HI := Lib.hid hI
          have HB := Lib.hid hB
          have Hup := Lib.hid hup
          have Hcs := Lib.hid hcs
          clear x0 x1 x2 hx hM hI hB hup hcs hca
          rcases (show (doE ins d i m = 0 ∧ dk d = 2) ∨ ¬ doE ins d i m = 0 ∨ (doE ins d i m = 0 ∧ ¬ dk d = 2) by omega) with ⟨he, hd⟩ | he | ⟨he, hd⟩
          case' inl =>
            have hi : 0 ≤ i ∧ i < N := by
              rcases Hcs.out with ⟨h, _⟩ | ⟨_, h0, h1, _⟩
              · exact absurd he h
              · omega
            obtain ⟨hi0, hi1⟩ := hi
            have HI2 := Lib.hid (rinv_idle HI.out (by rw [HM.out.lw]; omega) d i m he hd)
            have e1 : (doE ins d i m == 0) = true := beq_iff_eq.2 he
            have e2 : (bits .and .i64 d 3 == 2) = true := beq_iff_eq.2 hd
            clear he hd Hcs HI
            generalize hins2 : (doS ins com d i m).1 = ins2 at *
            generalize hcom2 : (doS ins com d i m).2 = com2 at *
            obtain ⟨hcc, hl2, hup2⟩ := Hup.out
            have Hup2 := Lib.hid hup2
            clear hup2 Hup
            go_wp2_with fail
            refine (do_any HM.out.trk d i m).mono ?_
            rintro e w2 ⟨rfl, T2, hf2⟩
            rw [hins2, hcom2] at T2
            clear hins2 hcom2
            have HM2 := Lib.hid (HM.out.call T2 hf2)
            have hxr := (row_new wr 29 #[.int .i64 d, .int .i64 i, .int .i64 m] wr.heap.size rfl).fr hf2 Hxn.out
            have kx0 : w2.cell? ⟨wr.heap.size, 0, none⟩ = some (.int .i64 d) := by rw [hxr.cell]; rfl
            have kx1 : w2.cell? ⟨wr.heap.size, 1, none⟩ = some (.int .i64 i) := by rw [hxr.cell]; rfl
            clear hxr T2 hf2 HM Hxn
            have kw := HM2.out.cw i.toNat (by omega)
            have fw := HM2.out.was.frozen i.toNat
            go_wp2_with fail
            have HM3 := Lib.hid (HM2.out.setW i.toNat)
            clear HM2 kw fw kx0 kx1
            generalize w2.setCell ⟨gw, i.toNat, none⟩ (.bool true) = w3 at *
            generalize W.set i.toNat true = W2 at *
            have Hsm : Hid (true = false → (∀ k : Nat, k < N → W2.getD k false = false) ∧ ∀ m, (∀ k : Nat, k < N → m ≤ (ofB ins2 k).1) → m ≤ com2) := fun h => by cases h
          case' inr.inl =>
            have HI2 := Lib.hid (rinv_other HI.out d i m (fun h => he h.1))
            have e1 : (doE ins d i m == 0) = false := beq_eq_false_iff_ne.2 he
            clear he Hcs HI
            generalize hins2 : (doS ins com d i m).1 = ins2 at *
            generalize hcom2 : (doS ins com d i m).2 = com2 at *
            obtain ⟨hcc, hl2, hup2⟩ := Hup.out
            have Hup2 := Lib.hid hup2
            clear hup2 Hup
            go_wp2_with fail
            refine (do_any HM.out.trk d i m).mono ?_
            rintro e w2 ⟨rfl, T2, hf2⟩
            rw [hins2, hcom2] at T2
            clear hins2 hcom2
            have HM2 := Lib.hid (HM.out.call T2 hf2)
            have hxr := (row_new wr 29 #[.int .i64 d, .int .i64 i, .int .i64 m] wr.heap.size rfl).fr hf2 Hxn.out
            have kx0 : w2.cell? ⟨wr.heap.size, 0, none⟩ = some (.int .i64 d) := by rw [hxr.cell]; rfl
            have kx1 : w2.cell? ⟨wr.heap.size, 1, none⟩ = some (.int .i64 i) := by rw [hxr.cell]; rfl
            clear hxr T2 hf2 HM Hxn
            go_wp2_with fail
            have HM3 := Lib.hid HM2.out
            clear HM2 kx0 kx1
            obtain ⟨w3, rfl⟩ : ∃ w3 : World, w3 = w2 := ⟨_, rfl⟩
            obtain ⟨W2, rfl⟩ : ∃ W2 : List Bool, W2 = W := ⟨_, rfl⟩
            have Hsm : Hid (sm = false → (∀ k : Nat, k < N → W2.getD k false = false) ∧ ∀ m, (∀ k : Nat, k < N → m ≤ (ofB ins2 k).1) → m ≤ com2) := fun h => HI2.out.all h
          case' inr.inr =>
            have HI2 := Lib.hid (rinv_other HI.out d i m (fun h => hd h.2))
            have e1 : (doE ins d i m == 0) = true := beq_iff_eq.2 he
            have e2 : (bits .and .i64 d 3 == 2) = false := beq_eq_false_iff_ne.2 hd
            clear hd
            clear he Hcs HI
            generalize hins2 : (doS ins com d i m).1 = ins2 at *
            generalize hcom2 : (doS ins com d i m).2 = com2 at *
            obtain ⟨hcc, hl2, hup2⟩ := Hup.out
            have Hup2 := Lib.hid hup2
            clear hup2 Hup
            go_wp2_with fail
            refine (do_any HM.out.trk d i m).mono ?_
            rintro e w2 ⟨rfl, T2, hf2⟩
            rw [hins2, hcom2] at T2
            clear hins2 hcom2
            have HM2 := Lib.hid (HM.out.call T2 hf2)
            have hxr := (row_new wr 29 #[.int .i64 d, .int .i64 i, .int .i64 m] wr.heap.size rfl).fr hf2 Hxn.out
            have kx0 : w2.cell? ⟨wr.heap.size, 0, none⟩ = some (.int .i64 d) := by rw [hxr.cell]; rfl
            have kx1 : w2.cell? ⟨wr.heap.size, 1, none⟩ = some (.int .i64 i) := by rw [hxr.cell]; rfl
            clear hxr T2 hf2 HM Hxn
            go_wp2_with fail
            have HM3 := Lib.hid HM2.out
            clear HM2 kx0 kx1
            obtain ⟨w3, rfl⟩ : ∃ w3 : World, w3 = w2 := ⟨_, rfl⟩
            obtain ⟨W2, rfl⟩ : ∃ W2 : List Bool, W2 = W := ⟨_, rfl⟩
            have Hsm : Hid (sm = false → (∀ k : Nat, k < N → W2.getD k false = false) ∧ ∀ m, (∀ k : Nat, k < N → m ≤ (ofB ins2 k).1) → m ≤ com2) := fun h => HI2.out.all h
          all_goals
            have HB3 : Hid (∀ j, j < N → B.getD j 0 ≤ (ofB ins2 j).1) := fun j hj => by rw [HB.out j hj]; exact Hup2.out j (by omega)
            clear HB
            refine (of_any HM3.out.trk 0).mono ?_
            rintro e w4 ⟨rfl, nq, rfl⟩
            have HM4 := Lib.hid (HM3.out.quiet ((Fr.refl [] _).drewN nq))
            clear HM3
            go_wp2
            go_loopw [15, 17] (fun lv kv wr => ∃ (k : Nat) (L : Int) (B2 : List Int), kv = .int .i64 k ∧ lv = .int .i64 L ∧ k ≤ N ∧ RMem w wr a (some ⟨g, 0, none⟩) N gw gb ins2 com2 W2 B2 ∧
                (∀ j, j < k → L ≤ (ofB ins2 j).1) ∧ (∀ m, (∀ j : Nat, j < N → m ≤ (ofB ins2 j).1) → m ≤ L) ∧ (∀ j, j < N → B2.getD j 0 ≤ (ofB ins2 j).1) ∧ (∀ j, j < k → B2.getD j 0 = (ofB ins2 j).1)) (fun _ kv _ => N - (intOf kv).toNat)
            case atStart => exact ⟨0, _, B, rfl, rfl, Nat.zero_le _, HM4.out, fun j hj => absurd hj (by omega), fun m hm => hm 0 (by omega), HB3.out, fun j hj => absurd hj (by omega)⟩
            case round =>
              obtain ⟨r, L, B2, rfl, rfl, hr, hM, hL1, hL2, hB1, hB2⟩ := hrel
              have HM := Lib.hid hM
              have HL1 := Lib.hid hL1
              have HL2 := Lib.hid hL2
              have HB1 := Lib.hid hB1
              have HB2 := Lib.hid hB2
              clear hM hL1 hL2 hB1 hB2 HM4
              by_cases hrlt : r < N
              · have hlm := Hid.out HL2
                have ck := HM.out.cb r (by omega)
                have fk := HM.out.bef.frozen r
                have cw := HM.out.cw r (by omega)
                have hb := HB1.out r hrlt
                have hfree := HI2.out.free r hrlt
                have Hof := Lib.hid (of_any HM.out.trk (r : Int))
                have Hmk : Hid (∀ x, x = (ofB ins2 r).1 → x = (ofB ins2 r).1) := fun _ h => h
                have Hst : Hid (∀ W5 : World, RMem w W5 a (some ⟨g, 0, none⟩) N gw gb ins2 com2 W2 B2 → RMem w (W5.setCell ⟨gb, r, none⟩ (.int .i64 (ofB ins2 r).1)) a (some ⟨g, 0, none⟩) N gw gb ins2 com2 W2 (B2.set r (ofB ins2 r).1)) := fun W5 h => h.setB r _
                have Hlb := Lib.hid HM.out.lb
                have Hend : Hid (∀ L2 : Int, L2 ≤ L → L2 ≤ (ofB ins2 r).1 → (L2 = L ∨ L2 = (ofB ins2 r).1) → (∀ j, j < r + 1 → L2 ≤ (ofB ins2 j).1) ∧ (∀ m, (∀ j : Nat, j < N → m ≤ (ofB ins2 j).1) → m ≤ L2) ∧ (∀ j, j < N → (B2.set r (ofB ins2 r).1).getD j 0 ≤ (ofB ins2 j).1) ∧ (∀ j, j < r + 1 → (B2.set r (ofB ins2 r).1).getD j 0 = (ofB ins2 j).1)) := by
                  intro L2 h1 h2 h3
                  refine ⟨fun j hj => ?_, fun m hm => ?_, fun j hj => ?_, fun j hj => ?_⟩
                  · by_cases e : j = r
                    · subst e; exact h2
                    · have := HL1.out j (by omega); omega
                  · rcases h3 with rfl | rfl
                    · exact hlm m hm
                    · exact hm r hrlt
                  · by_cases e : j = r
                    · subst e; rw [List.getD_eq_getElem?_getD, List.getElem?_set_self (by rw [Hlb.out]; omega)]; exact Int.le_refl _
                    · rw [List.getD_eq_getElem?_getD, List.getElem?_set_ne (by omega), ← List.getD_eq_getElem?_getD]; exact HB1.out j hj
                  · by_cases e : j = r
                    · subst e; rw [List.getD_eq_getElem?_getD, List.getElem?_set_self (by rw [Hlb.out]; omega)]; rfl
                    · rw [List.getD_eq_getElem?_getD, List.getElem?_set_ne (by omega), ← List.getD_eq_getElem?_getD]; exact HB2.out j (by omega)
                clear HL1 HL2 hlm HB1 HB2 Hlb Hmk
                generalize (ofB ins2 r).1 = mk at *
                generalize (ofB ins2 r).2 = mid at *
                generalize B2.getD r 0 = bk at *
                have HM5 : Hid (∀ n, RMem w (wr.drewN n) a (some ⟨g, 0, none⟩) N gw gb ins2 com2 W2 B2) := fun n => HM.out.quiet ((Fr.refl [] _).drewN n)
                by_cases hmc : mk < com2
                case' pos =>
                  have hw : W2.getD r false = true := by
                    cases hh : W2.getD r false with
                    | true => rfl
                    | false => have := hfree hh; omega
                  rw [hw] at cw
                  clear hw
                all_goals
                  clear hfree HM
                  go_wp2_with fail
                  refine Hof.out.mono ?_
                  rintro e w5 ⟨rfl, nq2, rfl⟩
                  go_wp2_with (go_at_call 9; refine (mark_any (HM5.out _).trk).mono ?_; rintro e w5' ⟨rfl, rfl⟩)
                  all_goals
                    go_roundw
                    case rel =>
                      obtain ⟨g1, g2, g3, g4⟩ := Hend.out (if mk < L then mk else L) (by split <;> omega) (by split <;> omega) (by split <;> first | exact .inl rfl | exact .inr rfl)
                      exact ⟨r + 1, _, _, by go_num, rfl, by omega, Hst.out _ (HM5.out _), g1, g2, g3, g4⟩
                    case measure => simp [intOf]; omega
              · have hrN : r = N := by omega
                subst hrN
                have HcL := Lib.hid (fun h => Int.le_antisymm (HL2.out com2 (fun j hj => (HI2.out.free j hj ((Hsm.out h).1 j hj)).2)) ((Hsm.out h).2 L HL1.out))
                have HBe := Lib.hid HB2.out
                clear HL1 HL2 HB1 HB2 Hsm
                cases sm
                all_goals
                  try (have hne2 : (com2 != L) = false := bne_eq_false_iff_eq.2 (HcL.out rfl))
                  go_wp2_with (go_at_call 9; refine (mark_any HM.out.trk).mono ?_; rintro e w5' ⟨rfl, rfl⟩)
                  go_roundw
                  case rel => exact ⟨q + 1, ins2, com2, W2, B2, _, by go_num, by omega, rfl, rfl, HM.out, HI2.out, HBe.out⟩
                  case measure => simp [intOf]; omega
        · have Hfr := Lib.hid hM.fr
          clear hM hI hB
          go_wp2
          go_ret
          exact ⟨rfl, Hfr.out⟩

end Go.Proofs.Ythajdajhclpaaaa
