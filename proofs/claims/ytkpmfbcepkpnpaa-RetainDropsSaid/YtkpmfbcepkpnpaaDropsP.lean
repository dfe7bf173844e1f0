/- RetainDrops: its plain part; the law's after. -/
import Derived.Test.YtkpmfbcepkpnpaaOps12
import Derived.Test.YtkpmfbcepkpnpaaHoldsP
import Derived.Laws.AppendOwnNone
namespace Go.Proofs.Ytkpmfbcepkpnpaa
open Go.RowKit Go.Shelf

theorem i64_and40 (n : Int) : bits .and .i64 n 1099511627775 = n % 1099511627776 := by
  have h127 : (BitVec.ofInt 64 1099511627775).toNat = 2 ^ 40 - 1 := by decide
  have key : (BitVec.ofInt 64 n &&& BitVec.ofInt 64 1099511627775).toNat = (n % ((2 ^ 64 : Nat) : Int)).toNat % 2 ^ 40 := by
    rw [BitVec.toNat_and, BitVec.toNat_ofInt, h127, Nat.and_two_pow_sub_one_eq_mod]
  show IntKind.i64.wrap ((BitVec.ofInt 64 n &&& BitVec.ofInt 64 1099511627775).toNat : Nat) = n % 1099511627776
  rw [key, IntKind.wrap_i64]
  omega

/-- The one row that the law adds. -/
def row7 : List Vl := [⟨0, 7, ⟨#[]⟩⟩]
/-- One more than the greatest time; at least h. -/
def hzT (h : Int) (l : List Int) : Int := l.foldl (fun h t => if h < t + 1 then t + 1 else h) h
def leadT (t : Int) : List Int → Nat
  | [] => 0
  | x :: l => if t ≤ x then 0 else leadT t l + 1
theorem leadT_le (t : Int) (l : List Int) : leadT t l ≤ l.length := by
  induction l with
  | nil => simp [leadT]
  | cons x l ih => simp only [leadT, List.length_cons]; split <;> omega
theorem leadT_lt (t : Int) (l : List Int) (j : Nat) (x : Int) (h : l[j]? = some x) (hj : j < leadT t l) : x < t := by
  induction l generalizing j with
  | nil => simp at h
  | cons y l ih =>
    simp only [leadT] at hj
    split at hj
    · omega
    · cases j with
      | zero => simp at h; subst h; omega
      | succ j => exact ih j (by simpa using h) (by omega)
theorem leadT_at (t : Int) (l : List Int) (x : Int) (h : l[leadT t l]? = some x) : t ≤ x := by
  induction l with
  | nil => simp at h
  | cons y l ih =>
    simp only [leadT] at h
    split at h
    · simp at h; subst h; assumption
    · exact ih (by simpa using h)
theorem hzT_evs (h : Int) (l : List (Ev × Value)) : hz h l = hzT h ((evs l).map (·.time)) := by
  rw [hz_evs]
  unfold hzE hzT
  rw [List.foldl_map]
theorem lead_times (t : Int) (l : List (Ev × Value)) : lead t l = leadT t ((evs l).map (·.time)) := by
  rw [lead_evs]
  induction evs l with
  | nil => rfl
  | cons x l ih => simp only [leadE, List.map_cons, leadT, ih]
theorem hzT_snoc (h : Int) (l : List Int) (t : Int) : hzT h (l ++ [t]) = if hzT h l < t + 1 then t + 1 else hzT h l := by
  unfold hzT
  rw [List.foldl_append]
  rfl
theorem hzT_bd (h : Int) (l : List Int) (h0 : 0 ≤ h) (h1 : h ≤ 1099511627777) (hl : ∀ t, t ∈ l → 0 ≤ t ∧ t ≤ 1099511627776) : 0 ≤ hzT h l ∧ hzT h l ≤ 1099511627777 := by
  induction l generalizing h with
  | nil => exact ⟨h0, h1⟩
  | cons x l ih =>
    have hx := hl x (by simp)
    have h2 := ih (if h < x + 1 then x + 1 else h) (by split <;> omega) (by split <;> omega) (fun t ht => hl t (by simp [ht]))
    simpa [hzT] using h2

theorem after_any (g : Nat) (cs : List Value) (ts : List Int) (k c : Nat) (w : World) (hr : Row w g 3 cs) (hk : k ≤ ts.length) (hcs : ∀ (j : Nat) (t : Int), j < k → ts[j]? = some t → cs[j]? = some (.int .i64 t)) (hb : ∀ t, t ∈ ts → 0 ≤ t ∧ t ≤ 1099511627776) (hl : k ≤ 1000) :
    Calls Try.prog 21 #[.slice (some ⟨g, 0, none⟩) k c] w fun e w' => e = .returned (.int .i64 (hzT 0 (ts.take k))) ∧ w' = w := by
  have Hr := Lib.hid hr
  have Hcs := Lib.hid hcs
  have Hb := Lib.hid hb
  clear hr hcs hb
  go_enter Try.func21, Try.ntmps21
  go_wp2
  go_loopg [3, 4] k (fun gk nv iv wx => wx = w ∧ ∃ j : Nat, iv = .int .i64 j ∧ j ≤ k ∧ gk = k - j ∧ nv = .int .i64 (hzT 0 (ts.take j)))
  case atStart => exact ⟨rfl, 0, rfl, Nat.zero_le _, rfl, rfl⟩
  case round =>
    obtain ⟨rfl, j, rfl, hj, rfl, rfl⟩ := hrel
    by_cases hlt : j < k
    · obtain ⟨t, ht⟩ : ∃ t, ts[j]? = some t := ⟨_, List.getElem?_eq_getElem (by omega)⟩
      have hc := Hcs.out j t hlt ht
      have hcell : wr.cell? ⟨g, j, none⟩ = some (.int .i64 t) := by rw [Hr.out.cell]; exact hc
      obtain ⟨ht0, ht1⟩ := Hb.out t (List.mem_of_getElem? ht)
      have hts : ts.take (j + 1) = ts.take j ++ [t] := by
        have hjl : j < ts.length := by omega
        have hv : ts[j] = t := by rw [List.getElem?_eq_getElem hjl] at ht; exact Option.some.inj ht
        rw [List.take_succ_eq_append_getElem hjl, hv]
      have hz1 : Hid (hzT 0 (ts.take (j + 1)) = if hzT 0 (ts.take j) < t + 1 then t + 1 else hzT 0 (ts.take j)) := by show _ = _; rw [hts, hzT_snoc]
      clear hc ht hts
      generalize hzT 0 (ts.take j) = z at *
      go_wp2
      all_goals
        go_roundg (k - (j + 1))
        case measure => omega
        case rel =>
          refine ⟨rfl, j + 1, by go_num, by omega, rfl, ?_⟩
          rw [hz1.out]
          first
            | rfl
            | (rw [if_pos (by assumption)])
            | (rw [if_neg (by omega)])
    · have hjk : j = k := by omega
      subst hjk
      go_wp2
      go_ret
      exact ⟨rfl, rfl⟩

end Go.Proofs.Ytkpmfbcepkpnpaa
