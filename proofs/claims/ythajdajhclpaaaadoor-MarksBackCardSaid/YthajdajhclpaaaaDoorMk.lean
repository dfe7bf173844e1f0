/- Walks of package marks: has, Mark, Count. -/
import Derived.Test.YthajdajhclpaaaaDoorProg
import Derived.Test.YthajdajhclpaaaaDoorMem
import Derived.Test.YthajdajhclpaaaaDoorMkPlain
import Derived.Deep.QuietTactic
import Derived.BigQuiet
import Derived.Outline
namespace Go.Proofs.YthajdajhclpaaaaDoor
open Go.RowKit

theorem has_any (a : Nat) (A : Option Addr) (n c : Nat) (w : World) (i : Int) (h0 : w.cell? ⟨a, 0, none⟩ = some (.slice A n c)) :
    Calls Tryd.prog 85 #[.pointer (some ⟨a, 0, none⟩), .int .i64 i] w fun e w' => e = .returned (.bool (decide (0 ≤ i) && decide (i < n))) ∧ w = w' := by
  go_enter Tryd.func85, Tryd.ntmps85
  go_wp2
  all_goals (go_ret; exact ⟨ret_bool (by simp; omega), rfl⟩)

def flat (ins : List (Int × Bool)) : List Value := ins.flatMap fun x => [.int .i64 x.1, .bool x.2]
theorem flat_len (ins : List (Int × Bool)) : (flat ins).length = 2 * ins.length := by
  induction ins with
  | nil => rfl
  | cons x l ih => simp [flat] at ih ⊢; omega
theorem flat_at (ins : List (Int × Bool)) (k : Nat) (h : k < ins.length) (sp : List Value) : (flat ins ++ sp)[k * 2]? = some (.int .i64 ins[k].1) ∧ (flat ins ++ sp)[k * 2 + 1]? = some (.bool ins[k].2) := by
  induction ins generalizing k with
  | nil => simp at h
  | cons x l ih =>
    cases k with
    | zero => simp [flat]
    | succ k =>
      have := ih k (by simpa using h)
      have e1 : (k + 1) * 2 = k * 2 + 1 + 1 := by omega
      rw [e1]
      simpa [flat] using this

/-- The inputs of a tracker, in memory. -/
def Ins (w : World) (A : Option Addr) (ins : List (Int × Bool)) : Prop := ins = [] ∨ ∃ g sp, A = some ⟨g, 0, none⟩ ∧ Row w g 93 (flat ins ++ sp)
theorem Ins.cell {w : World} {A : Option Addr} {ins : List (Int × Bool)} (h : Ins w A ins) (k : Nat) (hk : k < ins.length) :
    ∃ g, A = some ⟨g, 0, none⟩ ∧ w.cell? ⟨g, k * 2, none⟩ = some (.int .i64 ins[k].1) ∧ w.cell? ⟨g, k * 2 + 1, none⟩ = some (.bool ins[k].2) := by
  rcases h with rfl | ⟨g, sp, rfl, hr⟩
  · simp at hk
  · exact ⟨g, rfl, by rw [hr.cell]; exact (flat_at ins k hk sp).1, by rw [hr.cell]; exact (flat_at ins k hk sp).2⟩

theorem info_int : (Tryd.prog.info? 3).map (fun i => (i.zero, i.size, i.bytes)) = some (some (.int .i64 0), 1, 8) := by kernel_rfl

set_option maxRecDepth 100000 in
theorem min_any (g c : Nat) (w : World) (zs : List Int) (sp : List Value) (hn : zs.length ≤ 1000) (hpos : 0 < zs.length) (hr : Row w g 3 (zs.map (Value.int .i64) ++ sp)) :
    Calls Tryd.prog 102 #[.slice (some ⟨g, 0, none⟩) zs.length c] w fun e w' => ∃ m, Mk.least zs = some m ∧ e = .returned (.int .i64 m) ∧ w = w' := by
  have hc : ∀ k, (h : k < zs.length) → w.cell? ⟨g, k, none⟩ = some (.int .i64 zs[k]) := by
    intro k h
    rw [hr.cell, List.getElem?_append_left (by simpa using h)]
    simp [h]
  have c0 := hc 0 hpos
  have Hc := Lib.hid hc
  clear hc hr
  have Hm : Hid (Mk.least (zs.take 1) = some zs[0]) := by
    cases zs with
    | nil => simp at hpos
    | cons x l => rfl
  go_enter Tryd.func102, Tryd.ntmps102
  go_wp2
  go_loop [3, 4] (fun v i => ∃ (k : Nat) (m : Int), 1 ≤ k ∧ k ≤ zs.length ∧ i = .int .i64 k ∧ v = .int .i64 m ∧ Mk.least (zs.take k) = some m) (fun _ i => zs.length - (intOf i).toNat)
  case atStart => exact ⟨1, zs[0], by omega, by omega, rfl, rfl, Hm.out⟩
  case round =>
    obtain ⟨k, m, hk1, hk, rfl, rfl, hm⟩ := hrel
    have Hk := Lib.hid hm
    clear hm
    by_cases hlt : k < zs.length
    · have ck := Hc.out k hlt
      go_wp2
      go_round
      case rel => exact ⟨k + 1, _, by omega, by omega, by go_num, rfl, by rw [Mk.least_take zs k hlt (by omega) m Hk.out]; congr 1; split <;> omega⟩
      case measure => simp [intOf]; omega
    · go_wp2
      go_ret
      have e : zs.take k = zs := List.take_of_length_le (by omega)
      exact ⟨m, by rw [← e]; exact Hk.out, rfl, rfl⟩

/-- What least gives: the least number (0 where there is none), and whether there is one. -/
theorem least_any (v : Value) (base : Nat) (w : World) (zs : List Int) (hn : zs.length ≤ 1000) (hown : w.ownsRow base 3 1 v zs.length (zs.map (Value.int .i64))) :
    Calls Tryd.prog 93 #[v] w fun e w' => e = .returned (.tuple #[.int .i64 ((Mk.least zs).getD 0), .bool (Mk.least zs).isSome]) ∧ w = w' := by
  rcases Nat.eq_zero_or_pos zs.length with h0 | hpos
  · have hz : zs = [] := List.eq_nil_of_length_eq_zero h0
    subst hz
    rcases hown.2 with ⟨rfl, _⟩ | ⟨g, cap, cur, rfl, _⟩
    all_goals
      clear hown
      go_enter Tryd.func93, Tryd.ntmps93
      go_wp2
      go_ret2
      exact ⟨rfl, rfl⟩
  · obtain ⟨g, c, rfl⟩ := own_form hown hpos
    obtain ⟨_, sp, hr⟩ := own_row hown
    have H := Lib.hid (min_any g c w zs sp hn hpos hr)
    have hne : ((zs.length : Int) == 0) = false := by rw [beq_eq_false_iff_ne]; omega
    clear hown hr
    go_enter Tryd.func93, Tryd.ntmps93
    go_wp2_with (go_at_call 102; refine H.out.mono ?_; rintro e w' ⟨m, hm, rfl, rfl⟩; have Hm := Lib.hid hm; clear hm)
    go_ret2
    exact ⟨by rw [Hm.out]; rfl, rfl⟩

set_option maxRecDepth 100000 in
set_option maxHeartbeats 800000 in
theorem settled_some (a g : Nat) (c : Nat) (w : World) (ins : List (Int × Bool)) (sp : List Value) (com : Int) (hn : ins.length ≤ 1000)
    (ha : Row w a 95 [.slice (some ⟨g, 0, none⟩) ins.length c, .int .i64 com]) (hr : Row w g 93 (flat ins ++ sp)) :
    Calls Tryd.prog 79 #[.pointer (some ⟨a, 0, none⟩)] w fun e w' => e = .returned (.int .i64 (Mk.settled ins com)) ∧ Fr [] w w' := by
  have h0 : w.cell? ⟨a, 0, none⟩ = some (.slice (some ⟨g, 0, none⟩) ins.length c) := by rw [ha.cell]; rfl
  have h1 : w.cell? ⟨a, 1, none⟩ = some (.int .i64 com) := by rw [ha.cell]; rfl
  obtain ⟨i0, hi0, hz0, hz1, hz2⟩ := info_parts info_int
  have Ha := Lib.hid ha
  have Hr := Lib.hid hr
  clear ha hr
  go_enter Tryd.func79, Tryd.ntmps79
  go_wp2
  go_loopw [3, 13] (fun v i wr => ∃ k : Nat, k ≤ ins.length ∧ i = .int .i64 k ∧ wr.ownsRow w.heap.size 3 1 v (Mk.act (ins.take k)).length ((Mk.act (ins.take k)).map (Value.int .i64)) ∧ Fr [] w wr) (fun _ i _ => ins.length - (intOf i).toNat)
  case atStart => exact ⟨0, Nat.zero_le _, rfl, World.ownsRow_nil _ _ _ _, Fr.refl _ _⟩
  case round =>
    obtain ⟨k, hk, rfl, hown, hfr⟩ := hrel
    by_cases hlt : k < ins.length
    · have c0 : wr.cell? ⟨g, k * 2, none⟩ = some (.int .i64 ins[k].1) := by
        rw [hfr.cell Hr.out.lt (by simp), Hr.out.cell]; exact (flat_at ins k hlt sp).1
      have c1 : wr.cell? ⟨g, k * 2 + 1, none⟩ = some (.bool ins[k].2) := by
        rw [hfr.cell Hr.out.lt (by simp), Hr.out.cell]; exact (flat_at ins k hlt sp).2
      have Hown := Lib.hid hown
      have Hfr := Lib.hid hfr
      have hz := hfr.size
      have hal : (Mk.act (ins.take k)).length ≤ k := Nat.le_trans (Mk.act_len _) (List.length_take_le _ _)
      have Hts := Lib.hid (Mk.act_take_succ ins k hlt)
      clear hown hfr
      cases hid : ins[k].2 with
      | true =>
        rw [hid] at c1
        go_wp2
        go_roundw
        case rel => exact ⟨k + 1, by omega, by go_num, by rw [Hts.out, hid]; simpa using Hown.out.alloc _, (Hfr.out.alloc _)⟩
        case measure => simp [intOf]; omega
      | false =>
        rw [hid] at c1
        go_wp2_with (at_builtin; go_loud (refine wpList_app rfl (.tmp 20) (.tmp 23) 22 rfl w.heap.size 3 _ 1 8 Tryd.underlying22 info_int rfl (by decide) _ _ _ rfl ((Hown.out.alloc _).alloc _) _ 3 _ rfl (row_new _ _ _ _ (by simp)) (by rfl) (by simp [Value.oneCell']) (by omega) (by omega) (by simp; omega) ?_); intro g' c' w1 hown1 hfr1)
        have Hfr2 := Lib.hid ((((Hfr.out.alloc _).alloc _)).then hfr1 (fun i hi => .inr (own_fp Hown.out i hi).1))
        clear hfr1
        go_roundw
        case rel => exact ⟨k + 1, by omega, by go_num, by rw [Hts.out, hid]; simpa using hown1, Hfr2.out⟩
        case measure => simp [intOf]; omega
    · have e : ins.take k = ins := List.take_of_length_le (by omega)
      rw [e] at hown
      have h1' : wr.cell? ⟨a, 1, none⟩ = some (.int .i64 com) := by rw [hfr.cell Ha.out.lt (by simp)]; exact h1
      have H := Lib.hid (least_any _ w.heap.size wr (Mk.act ins) (Nat.le_trans (Mk.act_len _) hn) hown)
      have Hfr := Lib.hid hfr
      clear hown hfr e
      cases hl : Mk.least (Mk.act ins) with
      | none =>
        rw [hl] at H
        go_wp2_with (go_at_call 93; refine H.out.mono ?_; rintro e w' ⟨rfl, rfl⟩)
        go_ret
        exact ⟨ret_int (by unfold Mk.settled; rw [hl]), Hfr.out⟩
      | some m =>
        rw [hl] at H
        go_wp2_with (go_at_call 93; refine H.out.mono ?_; rintro e w' ⟨rfl, rfl⟩)
        all_goals
          go_ret
          exact ⟨ret_int (by unfold Mk.settled; rw [hl]; show _ = max m com; omega), Hfr.out⟩

/-- A tracker in block a: its inputs, its common mark. -/
structure Trk (w : World) (a : Nat) (A : Option Addr) (c : Nat) (ins : List (Int × Bool)) (com : Int) : Prop where
  row : Row w a 95 [.slice A ins.length c, .int .i64 com]
  inp : Ins w A ins
  len : ins.length ≤ 1000
/-- Its blocks. -/
def fpA (a : Nat) (A : Option Addr) : List Nat := a :: (A.map (·.block)).toList
theorem Ins.fr {w w' : World} {S : List Nat} {A : Option Addr} {ins : List (Int × Bool)} (h : Ins w A ins) (hf : Fr S w w') (hd : ∀ k, k ∈ (A.map (·.block)).toList → k ∉ S) : Ins w' A ins := by
  rcases h with h | ⟨g, sp, rfl, hr⟩
  · exact .inl h
  · exact .inr ⟨g, sp, rfl, hr.fr hf (hd g (by simp))⟩
theorem Trk.fr {w w' : World} {S : List Nat} {a : Nat} {A : Option Addr} {c : Nat} {ins : List (Int × Bool)} {com : Int} (h : Trk w a A c ins com) (hf : Fr S w w') (hd : ∀ k, k ∈ fpA a A → k ∉ S) : Trk w' a A c ins com :=
  ⟨h.row.fr hf (hd a (by simp [fpA])), h.inp.fr hf (fun k hk => hd k (by simp [fpA] at hk ⊢; exact .inr hk)), h.len⟩
theorem Trk.c0 {w : World} {a : Nat} {A : Option Addr} {c : Nat} {ins : List (Int × Bool)} {com : Int} (h : Trk w a A c ins com) : w.cell? ⟨a, 0, none⟩ = some (.slice A ins.length c) := by rw [h.row.cell]; rfl
theorem Trk.c1 {w : World} {a : Nat} {A : Option Addr} {c : Nat} {ins : List (Int × Bool)} {com : Int} (h : Trk w a A c ins com) : w.cell? ⟨a, 1, none⟩ = some (.int .i64 com) := by rw [h.row.cell]; rfl

set_option maxRecDepth 100000 in
theorem settled_any {a : Nat} {A : Option Addr} {c : Nat} {w : World} {ins : List (Int × Bool)} {com : Int} (h : Trk w a A c ins com) :
    Calls Tryd.prog 79 #[.pointer (some ⟨a, 0, none⟩)] w fun e w' => e = .returned (.int .i64 (Mk.settled ins com)) ∧ Fr [] w w' := by
  rcases h.inp with rfl | ⟨g, sp, rfl, hr⟩
  · have h0 : w.cell? ⟨a, 0, none⟩ = some (.slice A 0 c) := h.c0
    have h1 := h.c1
    have H := Lib.hid (least_any (.slice none 0 0) w.heap.size w [] (by simp) (World.ownsRow_nil _ _ _ _))
    clear h
    go_enter Tryd.func79, Tryd.ntmps79
    go_wp2
    refine wp_loop_rounds 1 ?_
    rw [rounds_succ]
    go_wp2_with (go_at_call 93; refine H.out.mono ?_; rintro e w' ⟨rfl, rfl⟩)
    go_ret
    exact ⟨rfl, Fr.refl _ _⟩
  · exact settled_some a g c w ins sp com h.len h.row hr

theorem mark_any {a : Nat} {A : Option Addr} {c : Nat} {w : World} {ins : List (Int × Bool)} {com : Int} (h : Trk w a A c ins com) :
    Calls Tryd.prog 51 #[.pointer (some ⟨a, 0, none⟩)] w fun e w' => e = .returned (.int .i64 com) ∧ w = w' := by
  have h1 := h.c1
  clear h
  go_enter Tryd.func51, Tryd.ntmps51
  go_wp2
  go_ret
  exact ⟨rfl, rfl⟩

theorem count_any {a : Nat} {A : Option Addr} {c : Nat} {w : World} {ins : List (Int × Bool)} {com : Int} (h : Trk w a A c ins com) :
    Calls Tryd.prog 58 #[.pointer (some ⟨a, 0, none⟩)] w fun e w' => e = .returned (.int .i64 ins.length) ∧ w = w' := by
  have h1 := h.c0
  clear h
  go_enter Tryd.func58, Tryd.ntmps58
  go_wp2
  go_ret
  exact ⟨rfl, rfl⟩

/-- What Of gives. -/
def ofB (ins : List (Int × Bool)) (i : Int) : Int × Bool := if 0 ≤ i then (ins[i.toNat]?).getD (-1, false) else (-1, false)

theorem of_any {a : Nat} {A : Option Addr} {c : Nat} {w : World} {ins : List (Int × Bool)} {com : Int} (h : Trk w a A c ins com) (i : Int) :
    Calls Tryd.prog 57 #[.pointer (some ⟨a, 0, none⟩), .int .i64 i] w fun e w' => e = .returned (.tuple #[.int .i64 (ofB ins i).1, .bool (ofB ins i).2]) ∧ ∃ n, w' = w.drewN n := by
  have h0 := h.c0
  by_cases hi : 0 ≤ i ∧ i < ins.length
  · obtain ⟨g, rfl, k0, k1⟩ := h.inp.cell i.toNat (by omega)
    obtain ⟨hi0, hi1⟩ := hi
    have e : ofB ins i = ins[i.toNat] := by unfold ofB; rw [if_pos hi0]; simp [show i.toNat < ins.length by omega]
    have Hh := Lib.hid (has_any a (some ⟨g, 0, none⟩) ins.length c w i h0)
    have E := Lib.hid e
    rw [show (decide (0 ≤ i) && decide (i < (ins.length : Int))) = true by simp; omega] at Hh
    have hl := h.len
    clear h e
    go_enter Tryd.func57, Tryd.ntmps57
    go_wp2_with (go_at_call 85; refine Hh.out.mono ?_; rintro e w' ⟨rfl, rfl⟩)
    go_quiet (fail)
    go_wp2
    go_ret2
    exact ⟨by rw [E.out]; rfl, _, rfl⟩
  · have e : ofB ins i = (-1, false) := by
      unfold ofB
      split
      · rw [List.getElem?_eq_none (by omega)]; rfl
      · rfl
    have Hh := Lib.hid (has_any a A ins.length c w i h0)
    rw [show (decide (0 ≤ i) && decide (i < (ins.length : Int))) = false by simp; omega] at Hh
    have E := Lib.hid e
    clear h e
    go_enter Tryd.func57, Tryd.ntmps57
    go_wp2_with (go_at_call 85; refine Hh.out.mono ?_; rintro e w' ⟨rfl, rfl⟩)
    go_ret2
    exact ⟨by rw [E.out]; rfl, 0, rfl⟩

end Go.Proofs.YthajdajhclpaaaaDoor
