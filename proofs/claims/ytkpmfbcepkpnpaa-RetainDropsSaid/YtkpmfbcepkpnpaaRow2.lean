/- value.all, value.RightRow, slices.Clone at rows. -/
import Derived.Test.YtkpmfbcepkpnpaaRow
namespace Go.Proofs.Ytkpmfbcepkpnpaa
open Go.RowKit Go.Shelf

theorem eg38 : ∀ args w, (callFunc 38 args).run Try.prog w = .ok (.enter 38 args) w := enters_of Try.func38 (by kernel_rfl) rfl
theorem notRight (B : Nat) (w : World) (hB : B ≤ w.heap.size) : PredV 38 #[] (fun x => !rightV x) B w := fun W x hb => by
  have hcon := fun W => Lib.hid (right_val x W)
  have Hb := Lib.hid hb
  have hz := hb.size
  obtain ⟨k, n, s⟩ := x
  simp only at hcon
  clear hb
  show Calls Try.prog 38 #[.agg #[.int .i64 k, .int .i64 n, .string s]] W (fun e w' => e = .returned (.bool (!rightV ⟨k, n, s⟩)) ∧ Below B W w')
  generalize rightV ⟨k, n, s⟩ = r at *
  go_enter Try.func38, Try.ntmps38
  go_wp2_with (go_at_call 39; refine (hcon _).out.mono ?_; rintro e w1 ⟨rfl, hf⟩; have Hf := Lib.hid hf; clear hf)
  all_goals
    go_ret
    exact ⟨rfl, ((Fr.refl [] W).alloc _ |>.trans Hf.out).toBelow (fun _ h => by cases h) (Nat.le_trans hB hz)⟩

theorem contains_any (g : Nat) (lb : Array Value) (eg : ∀ args w, (callFunc g args).run Try.prog w = .ok (.enter g args) w) (p : Vl → Bool) (A : Option Addr) (c : Nat) (row : List Vl) (w : World) (hp : PredV g lb p w.heap.size w) (hl : row.length ≤ maxLen)
    (hA : 0 < row.length → ∃ b off, A = some ⟨b, off, none⟩ ∧ Came w b off (vcells row)) :
    Calls Try.prog 37 #[.slice A row.length c, .func (.func g) #[] lb] w fun e w' => e = .returned (.bool (row.any p)) ∧ Below w.heap.size w w' := by
  have hcon := Lib.hid (idx_any g lb eg p A c row w 0 (Nat.zero_le _) hp hl hA)
  have hany := Lib.hid (fidx_any p row)
  clear hp hA hl
  go_enter Try.func37, Try.ntmps37
  go_wp2_with (go_at_call 40; refine hcon.out.mono ?_; rintro e w1 ⟨rfl, hb⟩; have Hb := Lib.hid hb; clear hb)
  go_ret
  exact ⟨by rw [← hany.out]; rfl, Hb.out⟩

theorem all_any {B : Nat} {X : List Nat} {w : World} {v : Value} {row : List Vl} (h : RV B X w v row) : Calls Try.prog 33 #[v] w fun e w' => e = .returned (.bool (row.all rightV)) ∧ Fr [] w w' := by
  obtain ⟨A, c, rfl, hl, hA⟩ := h
  have hcon := Lib.hid (contains_any 38 #[] eg38 (fun x => !rightV x) A c row w (notRight _ _ (Nat.le_refl _)) hl (fun h0 => by
    obtain ⟨b, off, h1, h2, _⟩ := hA h0
    exact ⟨b, off, h1, h2⟩))
  have hall : Hid (row.all rightV = !row.any fun x => !rightV x) := by
    show _ = _
    rw [List.not_any_eq_all_not]
    simp
  clear hA hl
  go_enter Try.func33, Try.ntmps33
  go_wp2_with (go_at_call 37; refine hcon.out.mono ?_; rintro e w1 ⟨rfl, hb⟩; have Hb := Lib.hid hb; clear hb)
  go_ret
  refine ⟨by rw [hall.out]; rfl, ?_⟩
  exact ⟨Hb.out.os, Hb.out.tape, Hb.out.output, Hb.out.size, fun k hk _ => Hb.out.block k hk⟩

/-- What value.RightRow says. -/
def rightRow (row : List Vl) : Bool := decide (row.length ≤ 12) && row.all rightV
theorem rightRow_any {B : Nat} {X : List Nat} {w : World} {v : Value} {row : List Vl} (h : RV B X w v row) : Calls Try.prog 25 #[v] w fun e w' => e = .returned (.bool (rightRow row)) ∧ Fr [] w w' := by
  have hcon := fun W hf => Lib.hid (all_any (w := W) (h.quiet hf))
  obtain ⟨A, c, rfl, hl, hA⟩ := h
  clear hA hl
  unfold rightRow
  by_cases h12 : row.length ≤ 12
  · rw [decide_eq_true h12, Bool.true_and]
    generalize row.all rightV = r at *
    generalize hn : row.length = n at *
    have Hn := Lib.hid hn
    clear hn
    go_enter Try.func25, Try.ntmps25
    go_wp2_with (go_at_call 33; refine (hcon _ (by (repeat' (first | with_reducible exact Fr.refl _ _ | with_reducible assumption | with_reducible apply Fr.drew | with_reducible apply Fr.drewN | with_reducible apply Fr.alloc | (with_reducible refine Fr.set ?_ (.inr (by first | exact Nat.le_refl _ | exact Nat.le_succ _ | (simp; done) | (simp; omega))) _))))).out.mono ?_; rintro e w1 ⟨rfl, hf⟩; have Hf := Lib.hid hf; clear hf)
    go_ret
    exact ⟨rfl, by first | exact Hf.out | exact ((Fr.refl [] w).drew.trans Hf.out)⟩
  · rw [decide_eq_false h12, Bool.false_and]
    generalize hn : row.length = n at *
    have Hn := Lib.hid hn
    clear hn
    go_enter Try.func25, Try.ntmps25
    go_wp2
    go_ret
    exact ⟨rfl, by (repeat' (first | with_reducible exact Fr.refl _ _ | with_reducible assumption | with_reducible apply Fr.drew | with_reducible apply Fr.drewN | with_reducible apply Fr.alloc | (with_reducible refine Fr.set ?_ (.inr (by first | exact Nat.le_refl _ | exact Nat.le_succ _ | (simp; done) | (simp; omega))) _)))⟩

theorem info_val : (Try.prog.info? 44).map (fun i => (i.zero, i.size, i.bytes)) = some (some (.agg #[.int .i64 0, .int .i64 0, .string ⟨#[]⟩]), 3, 32) := by kernel_rfl
theorem vcells_one (row : List Vl) : ∀ u ∈ vcells row, u.oneCell' = true := by
  intro u hu
  obtain ⟨x, _, hx⟩ := List.mem_flatMap.1 hu
  simp [encV] at hx
  rcases hx with rfl | rfl | rfl <;> rfl

set_option maxHeartbeats 1000000 in
theorem clone_row {B : Nat} {X : List Nat} {w : World} {v : Value} {row : List Vl} (h : RV B X w v row) (hl : row.length ≤ 100000) (X' : List Nat) (hX' : ∀ k, k ∈ X' → k < w.heap.size) : Calls Try.prog 34 #[v] w fun e w' => ∃ v', e = .returned v' ∧ RV B X' w' v' row ∧ Fr [] w w' := by
  obtain ⟨A, c, rfl, hm, hA⟩ := h
  obtain ⟨i0, hi, hz, hsz, hby⟩ := info_parts info_val
  have Hi := Lib.hid hi
  have Hz := Lib.hid hz
  have Hsz := Lib.hid hsz
  have Hby := Lib.hid hby
  have HA := Lib.hid hA
  have HX := Lib.hid hX'
  clear hi hz hsz hby hA hm hX'
  cases A with
  | none =>
    have h0 : row = [] := by
      cases row with
      | nil => rfl
      | cons x r =>
        obtain ⟨b, off, h1, _⟩ := HA.out (by simp)
        cases h1
    subst h0
    clear HA hl
    have q : ∀ (w : World) (a : Option Addr) (n c n' c' : Nat), (binOp .eql 28 (.slice a n c) (.slice none n' c')).run Try.prog w = .ok (.bool a.isNone) w := fun w a n c n' c' => Lib.run_eql_slice_nil w _ _ a n c n' c' Try.underlying28
    go_enter Try.func34, Try.ntmps34
    go_wp2
    go_ret
    exact ⟨_, rfl, ⟨none, 0, rfl, by decide, fun h => absurd h (by simp)⟩, Fr.refl _ _⟩
  | some ad =>
    obtain ⟨b, off, spot⟩ := ad
    have q : ∀ (w : World) (a : Option Addr) (n c n' c' : Nat), (binOp .eql 28 (.slice a n c) (.slice none n' c')).run Try.prog w = .ok (.bool a.isNone) w := fun w a n c n' c' => Lib.run_eql_slice_nil w _ _ a n c n' c' Try.underlying28
    have Hsrc : Hid (∀ j u, (vcells row)[j]? = some u → (w.alloc (.cells #[] 44)).cell? ((⟨b, off, spot⟩ : Addr).add j) = some u) := by
      intro j u hu
      have hpos : 0 < row.length := by
        have h1 := (List.getElem?_eq_some_iff.1 hu).1
        unfold vcells at h1
        rw [flat_len encV 3 (fun _ => rfl)] at h1
        omega
      obtain ⟨b', off', h1, h2, _⟩ := HA.out hpos
      injection h1 with h1
      rw [h1]
      have e1 : (⟨b', off', none⟩ : Addr).add j = ⟨b', off' + j, none⟩ := by unfold Addr.add; split <;> simp_all
      rw [e1]
      exact (h2.of_block (w' := w.alloc (.cells #[] 44)) (by simp) (Below.heap_alloc _ _ _ h2.1)).2 j u hu
    have Hl := Lib.hid hl
    clear hl
    go_enter Try.func34, Try.ntmps34
    go_wp2_with (at_builtin; refine wpList_append_own _ rfl _ _ 28 rfl w.heap.size 44 i0 _ 3 32 Try.underlying28 Hi.out Hz.out Hsz.out Hby.out rfl (by decide) _ 0 [] rfl (World.ownsRow_made w #[] 0 (Nat.le_refl _) (Nat.zero_le _) (by simp)) ⟨b, off, spot⟩ row.length c (vcells row) rfl ?qc1 ?qc2 ?qc3 ?qc4 ?qc5 ?qc6 ?_)
    case qc1 => exact flat_len encV 3 (fun _ => rfl) row
    case qc2 => exact Hsrc.out
    case qc3 => exact vcells_one row
    case qc4 => have := Hl.out; unfold maxLen; omega
    case qc5 => have := Hl.out; omega
    case qc6 => simp
    intro v' w1 hown hgrow hnil
    have Hown := Lib.hid hown
    have Hgrow := Lib.hid hgrow
    clear hown hgrow hnil
    go_wp2
    go_ret
    refine ⟨v', rfl, ?_, ?_⟩
    · have ho := Hown.out
      first | rw [Nat.zero_add, List.nil_append] at ho | rw [List.nil_append] at ho | skip
      rcases ho.2 with ⟨rfl, h0⟩ | ⟨g, cap, cur, rfl, hb, hg, hn, hmx, hcs, ht⟩
      · have h0' : row = [] := List.eq_nil_of_length_eq_zero h0
        subst h0'
        exact ⟨none, 0, rfl, by decide, fun h => absurd h (by simp)⟩
      · obtain ⟨_, sp, hr⟩ := own_row ho
        refine ⟨_, cap, rfl, Nat.le_trans hn hmx, fun h0 => ⟨g, 0, rfl, ⟨hr.lt, fun j u hu => ?_⟩, fun hin => by have := HX.out g hin; omega, .inr ⟨_, hr⟩⟩⟩
        rw [Nat.zero_add, hr.cell, List.getElem?_append_left (List.getElem?_eq_some_iff.1 hu).1]
        exact hu
    · exact ((Fr.refl [] w).alloc _).grown Hgrow.out (by intro g hg; simp [Value.ownBlock] at hg; exact .inr (by omega))

end Go.Proofs.Ytkpmfbcepkpnpaa
