/- Layer 1: WirePrefix. -/
import Derived.Test.YthajdajhclpaaaaDoorBackW
import Derived.Deep.RegionHeld3
namespace Go.Proofs.YthajdajhclpaaaaDoor
open Go.RowKit Go.Shelf Wr

theorem two_reads {α : Type} {one : Rd → α × Rd} {a b r : List UInt8} {x y : α} (h1 : one (a ++ r, false) = (x, (r, false))) (h2 : one (b ++ [], false) = (y, ([], false))) (h : b = a ++ r) : r = [] := by
  rw [List.append_nil, h, h1] at h2
  exact congrArg (fun p => p.2.1) h2
theorem enc_prefix (x y : Wv) (hx : x.Int64) (sx : x.Small) (hy : y.Int64) (sy : y.Small) (hk : x.kind % 5 = y.kind % 5) (r : List UInt8) (h : y.enc = x.enc ++ r) : r = [] := by
  have ex : x.enc = if x.kind % 5 = 0 then encInt (nneg x.num) else if x.kind % 5 = 1 then encInt x.num else if x.kind % 5 = 2 then encText x.text else if x.kind % 5 = 3 then encList (x.nums.map encInt) else encList (x.texts.map encText) := rfl
  have ey : y.enc = if y.kind % 5 = 0 then encInt (nneg y.num) else if y.kind % 5 = 1 then encInt y.num else if y.kind % 5 = 2 then encText y.text else if y.kind % 5 = 3 then encList (y.nums.map encInt) else encList (y.texts.map encText) := rfl
  rw [ex, ey, hk] at h
  clear ex ey
  have hkd : y.kind % 5 = 0 ∨ y.kind % 5 = 1 ∨ y.kind % 5 = 2 ∨ y.kind % 5 = 3 ∨ y.kind % 5 = 4 := by omega
  have t1 := sx.text
  have t2 := sy.text
  have n1 := sx.nums
  have n2 := sy.nums
  have l1 := sx.texts
  have l2 := sy.texts
  rcases hkd with k | k | k | k | k <;> rw [k] at h
  · exact two_reads (reads_nat.toEnc _ r (nneg_range _ hx.num)) (reads_nat.toEnc _ [] (nneg_range _ hy.num)) h
  · exact two_reads (reads_int.toEnc _ r hx.num) (reads_int.toEnc _ [] hy.num) h
  · exact two_reads (reads_text.toEnc _ r (by omega)) (reads_text.toEnc _ [] (by omega)) h
  · exact two_reads (rlist_enc reads_int x.nums hx.nums (by omega) r) (rlist_enc reads_int y.nums hy.nums (by omega) []) h
  · exact two_reads (rlist_enc reads_text x.texts (fun t ht => by have := sx.each t ht; omega) (by omega) r) (rlist_enc reads_text y.texts (fun t ht => by have := sy.each t ht; omega) (by omega) []) h

/-- The cells of a value of the law at the head of block g. -/
def Five (w : World) (g : Nat) (x : Wv) (vn vt : Value) : Prop :=
  w.cell? ⟨g, 0, none⟩ = some (.int .i64 x.kind) ∧ w.cell? ⟨g, 1, none⟩ = some (.int .i64 x.num) ∧ w.cell? ⟨g, 2, none⟩ = some (.string ⟨x.text.toArray⟩) ∧ w.cell? ⟨g, 3, none⟩ = some vn ∧ w.cell? ⟨g, 4, none⟩ = some vt
theorem Five.fr {w w' : World} {g : Nat} {x : Wv} {vn vt : Value} (h : Five w g x vn vt) (hf : Fr [] w w') (hg : g < w.heap.size) : Five w' g x vn vt :=
  ⟨keepc hf h.1 hg (by simp), keepc hf h.2.1 hg (by simp), keepc hf h.2.2.1 hg (by simp), keepc hf h.2.2.2.1 hg (by simp), keepc hf h.2.2.2.2 hg (by simp)⟩
theorem Five.row {w : World} {g : Nat} {x : Wv} {vn vt : Value} (h : Row w g 25 (wcells x vn vt)) : Five w g x vn vt :=
  ⟨by rw [h.cell]; rfl, by rw [h.cell]; rfl, by rw [h.cell]; rfl, by rw [h.cell]; rfl, by rw [h.cell]; rfl⟩
/-- few of one value. -/
theorem few_one {B0 : Nat} {w wp : World} (g : Nat) (x : Wv) (vn vt : Value) (hf : Fr [] w wp) (hrow : Row wp g 25 (wcells x vn vt)) (hv : VL B0 w x vn vt) (r : Bool) (hr : r = true ↔ Few [(x, vn, vt)]) :
    Calls Tryd.prog 12 #[.slice (some ⟨g, 0, none⟩) 1 1] wp fun e w' => e = .returned (.bool r) ∧ Fr [] w w' := by
  refine (few_any [(x, vn, vt)] (some ⟨g, 0, none⟩) 1 B0 _ (fun _ => ⟨_, 0, rfl, hrow.lt, fun j u hu => ?_⟩) (fun t ht => ?_) r hr).mono fun e w' h => ⟨h.1, hf.trans h.2⟩
  · rw [Nat.zero_add, hrow.cell]
    simpa [wc, wcells] using hu
  · have e : t = (x, vn, vt) := by simpa using ht
    subst e
    exact hv.quiet hf

set_option maxRecDepth 100000 in
set_option maxHeartbeats 1000000 in
theorem prefix_any (x y : Wv) (vn vt un ut : Value) (B B0 : Nat) (w : World) (h : LW B w) (hv : VL B0 w x vn vt) (hu : VL B0 w y un ut) (hB0 : B0 ≤ w.heap.size) (hx : x.Int64) (hy : y.Int64) :
    Calls Tryd.prog 5 #[.agg (wcells x vn vt).toArray, .agg (wcells y un ut).toArray] w fun e w' => e = .returned (.bool true) ∧ Fr [] w w' := by
  have H := Lib.hid h
  have HV := Lib.hid hv
  have HU := Lib.hid hu
  have HX := Lib.hid hx
  have HY := Lib.hid hy
  show Calls _ _ #[.agg #[.int .i64 x.kind, .int .i64 x.num, .string ⟨x.text.toArray⟩, vn, vt], .agg #[.int .i64 y.kind, .int .i64 y.num, .string ⟨y.text.toArray⟩, un, ut]] _ _
  have hf0 : Fr [] w ((w.alloc (.cells #[.int .i64 x.kind, .int .i64 x.num, .string ⟨x.text.toArray⟩, vn, vt] 25)).alloc (.cells #[.int .i64 y.kind, .int .i64 y.num, .string ⟨y.text.toArray⟩, un, ut] 25)) := by (repeat' (first | with_reducible exact Fr.refl _ _ | with_reducible assumption | with_reducible apply Fr.drew | with_reducible apply Fr.drewN | with_reducible apply Fr.alloc | (with_reducible refine Fr.set ?_ (.inr (by first | exact Nat.le_refl _ | exact Nat.le_succ _ | (simp; done) | (simp; omega))) _)))
  have Hf0 := Lib.hid hf0
  have hs := small01_any _ (h.quiet hf0)
  have Hs := Lib.hid hs
  have hrx : Row ((w.alloc (.cells #[.int .i64 x.kind, .int .i64 x.num, .string ⟨x.text.toArray⟩, vn, vt] 25)).alloc (.cells #[.int .i64 y.kind, .int .i64 y.num, .string ⟨y.text.toArray⟩, un, ut] 25)) w.heap.size 25 (wcells x vn vt) := Row.alloc (row_new w _ _ _ rfl) _
  have hry : Row ((w.alloc (.cells #[.int .i64 x.kind, .int .i64 x.num, .string ⟨x.text.toArray⟩, vn, vt] 25)).alloc (.cells #[.int .i64 y.kind, .int .i64 y.num, .string ⟨y.text.toArray⟩, un, ut] 25)) (w.heap.size + 1) 25 (wcells y un ut) := row_new _ _ _ _ (by simp)
  have Hrx := Lib.hid (Five.row hrx)
  have Hry := Lib.hid (Five.row hry)
  have Hlx := Lib.hid hrx.lt
  have Hly := Lib.hid hry.lt
  clear h hv hu hx hy hf0 hs hrx hry
  obtain ⟨r, hr⟩ : ∃ r : Bool, r = true ↔ Few [(x, vn, vt)] := by
    by_cases hf : Few [(x, vn, vt)]
    · exact ⟨true, by simp [hf]⟩
    · exact ⟨false, by simp [hf]⟩
  obtain ⟨r', hr'⟩ : ∃ r : Bool, r = true ↔ Few [(y, un, ut)] := by
    by_cases hf : Few [(y, un, ut)]
    · exact ⟨true, by simp [hf]⟩
    · exact ⟨false, by simp [hf]⟩
  have HR := Lib.hid hr
  have HR' := Lib.hid hr'
  clear hr hr'
  obtain ⟨wb, hwb⟩ : ∃ wb, wb = (w.alloc (.cells #[.int .i64 x.kind, .int .i64 x.num, .string ⟨x.text.toArray⟩, vn, vt] 25)).alloc (.cells #[.int .i64 y.kind, .int .i64 y.num, .string ⟨y.text.toArray⟩, un, ut] 25) := ⟨_, rfl⟩
  have Hwb := Lib.hid hwb
  rw [← hwb] at Hf0 Hs Hrx Hry Hlx Hly
  clear hwb
  have hS : ∀ w1, Fr [] wb w1 → Fr [] wb w1 ∧ Five w1 w.heap.size x vn vt ∧ Five w1 (w.heap.size + 1) y un ut := fun w1 hf => ⟨hf, Hrx.out.fr hf Hlx.out, Hry.out.fr hf Hly.out⟩
  have HS := Lib.hid hS
  have Hwx : Hid (∀ g w1, Fr [] wb w1 → Row w1 g 25 (wcells x vn vt) → Calls Tryd.prog 12 #[.slice (some ⟨g, 0, none⟩) 1 1] w1 fun e w' => e = .returned (.bool r) ∧ Fr [] wb w') := fun g w1 hf hrow => few_one g x vn vt hf hrow (HV.out.quiet Hf0.out) r HR.out
  have Hwy : Hid (∀ g w1, Fr [] wb w1 → Row w1 g 25 (wcells y un ut) → Calls Tryd.prog 12 #[.slice (some ⟨g, 0, none⟩) 1 1] w1 fun e w' => e = .returned (.bool r') ∧ Fr [] wb w') := fun g w1 hf hrow => few_one g y un ut hf hrow (HU.out.quiet Hf0.out) r' HR'.out
  clear hS
  cases r with
  | false =>
    go_enter Tryd.func5, Tryd.ntmps5
    go_wp2_with fail
    rw [← Hwb.out]
    refine Hs.out.mono ?_
    rintro e w1 ⟨rfl, hf1⟩
    have Hf1 := Lib.hid hf1
    clear hf1
    go_wp2_with fail
    refine wp_region_held_drew (S := fun wx => Fr [] wb wx ∧ Five wx w.heap.size x vn vt ∧ Five wx (w.heap.size + 1) y un ut) (by kernel_rfl) (HS.out _ Hf1.out.drew) (fun hHeld => ?_)
    refine wpAnyH_take (i := 0) (oi := _) (v := ?_) rfl (by kernel_rfl) (by kernel_rfl) (by kernel_rfl) (fun _ _ _ h => h) (Or.inl ⟨by rfl, ?_⟩) (by assumption) ?_
    rotate_left
    · intro w hSw
      obtain ⟨_, ⟨d0, d1, d2, d3, d4⟩, ⟨e0, e1, e2, e3, e4⟩⟩ := hSw
      go_simp
      try with_reducible rfl
    try simp only [Act.put, List.getElem_toArray, List.getElem_cons_zero, List.getElem_cons_succ, List.setIfInBounds_toArray, List.set_cons_zero, List.set_cons_succ]
    have hf1 := Hf1.out
    refine wpAnyH_ready (rs := [1]) (by kernel_rfl) (by simp) ?_
    refine AllReadyH.cons (o := _) rfl (fun K hK => ?_) AllReadyH.nil
    go_simp
    refine hK.out _ _ (HS.out _ (by (repeat' (first | with_reducible exact Fr.refl _ _ | with_reducible assumption | with_reducible apply Fr.drew | with_reducible apply Fr.drewN | with_reducible apply Fr.alloc | (with_reducible refine Fr.set ?_ (.inr (by first | exact Nat.le_refl _ | exact Nat.le_succ _ | (simp; done) | (simp; omega))) _))))) (fun hHeld => ?_)
    clear hK K
    try simp only [Act.put, List.getElem_toArray, List.getElem_cons_zero, List.getElem_cons_succ, List.setIfInBounds_toArray, List.set_cons_zero, List.set_cons_succ]
    refine wpAnyH_ready (rs := [2]) (by kernel_rfl) (by simp) ?_
    refine AllReadyH.cons (o := _) rfl (fun K hK => ?_) AllReadyH.nil
    go_simp
    go_at_call 12
    have hrw : Row (w1.alloc (.cells #[.int .i64 x.kind, .int .i64 x.num, .string ⟨x.text.toArray⟩, vn, vt] 25)).drew w1.heap.size 25 (wcells x vn vt) := Row.drew (row_new w1 _ #[.int .i64 x.kind, .int .i64 x.num, .string ⟨x.text.toArray⟩, vn, vt] _ rfl)
    have hfw : Fr [] wb (w1.alloc (.cells #[.int .i64 x.kind, .int .i64 x.num, .string ⟨x.text.toArray⟩, vn, vt] 25)).drew := by (repeat' (first | with_reducible exact Fr.refl _ _ | with_reducible assumption | with_reducible apply Fr.drew | with_reducible apply Fr.drewN | with_reducible apply Fr.alloc | (with_reducible refine Fr.set ?_ (.inr (by first | exact Nat.le_refl _ | exact Nat.le_succ _ | (simp; done) | (simp; omega))) _)))
    have hcc := Hwx.out _ _ hfw hrw
    refine hcc.mono ?_
    rintro e w2 ⟨rfl, hf2⟩
    refine hK.out _ _ (HS.out _ hf2) (fun hHeld => ?_)
    clear hK K
    try simp only [Act.put, List.getElem_toArray, List.getElem_cons_zero, List.getElem_cons_succ, List.setIfInBounds_toArray, List.set_cons_zero, List.set_cons_succ]
    refine wpAnyH_take (i := 3) (oi := _) (v := (.bool true)) rfl (by kernel_rfl) (by kernel_rfl) (by kernel_rfl) (fun _ _ _ h => h) (Or.inl ⟨by rfl, ?_⟩) (by assumption) ?_
    · intro w hSw
      go_simp
      try with_reducible rfl
    try simp only [Act.put, List.getElem_toArray, List.getElem_cons_zero, List.getElem_cons_succ, List.setIfInBounds_toArray, List.set_cons_zero, List.set_cons_succ]
    refine wpAnyH_take (i := 4) (oi := _) (v := (.bool true)) rfl (by kernel_rfl) (by kernel_rfl) (by kernel_rfl) (fun _ _ _ h => h) (Or.inl ⟨by rfl, ?_⟩) (by assumption) ?_
    · intro w hSw
      go_simp
      try with_reducible rfl
    try simp only [Act.put, List.getElem_toArray, List.getElem_cons_zero, List.getElem_cons_succ, List.setIfInBounds_toArray, List.set_cons_zero, List.set_cons_succ]
    refine wpAnyH_take (i := 5) (oi := _) (v := undef) rfl (by kernel_rfl) (by kernel_rfl) (by kernel_rfl) (fun _ _ _ h => h) (Or.inr ⟨by rfl, rfl⟩) (by assumption) ?_
    try simp only [Act.put, List.getElem_toArray, List.getElem_cons_zero, List.getElem_cons_succ, List.setIfInBounds_toArray, List.set_cons_zero, List.set_cons_succ]
    refine wpAnyH_take (i := 6) (oi := _) (v := undef) rfl (by kernel_rfl) (by kernel_rfl) (by kernel_rfl) (fun _ _ _ h => h) (Or.inr ⟨by rfl, rfl⟩) (by assumption) ?_
    try simp only [Act.put, List.getElem_toArray, List.getElem_cons_zero, List.getElem_cons_succ, List.setIfInBounds_toArray, List.set_cons_zero, List.set_cons_succ]
    refine wpAnyH_take (i := 7) (oi := _) (v := undef) rfl (by kernel_rfl) (by kernel_rfl) (by kernel_rfl) (fun _ _ _ h => h) (Or.inr ⟨by rfl, rfl⟩) (by assumption) ?_
    try simp only [Act.put, List.getElem_toArray, List.getElem_cons_zero, List.getElem_cons_succ, List.setIfInBounds_toArray, List.set_cons_zero, List.set_cons_succ]
    refine wpAnyH_take (i := 8) (oi := _) (v := undef) rfl (by kernel_rfl) (by kernel_rfl) (by kernel_rfl) (fun _ _ _ h => h) (Or.inr ⟨by rfl, rfl⟩) (by assumption) ?_
    try simp only [Act.put, List.getElem_toArray, List.getElem_cons_zero, List.getElem_cons_succ, List.setIfInBounds_toArray, List.set_cons_zero, List.set_cons_succ]
    refine wpAnyH_take (i := 9) (oi := _) (v := (.bool true)) rfl (by kernel_rfl) (by kernel_rfl) (by kernel_rfl) (fun _ _ _ h => h) (Or.inl ⟨by rfl, ?_⟩) (by assumption) ?_
    · intro w hSw
      go_simp
      try with_reducible rfl
    try simp only [Act.put, List.getElem_toArray, List.getElem_cons_zero, List.getElem_cons_succ, List.setIfInBounds_toArray, List.set_cons_zero, List.set_cons_succ]
    refine wpAnyH_take (i := 10) (oi := _) (v := (.bool true)) rfl (by kernel_rfl) (by kernel_rfl) (by kernel_rfl) (fun _ _ _ h => h) (Or.inl ⟨by rfl, ?_⟩) (by assumption) ?_
    · intro w hSw
      go_simp
      try with_reducible rfl
    try simp only [Act.put, List.getElem_toArray, List.getElem_cons_zero, List.getElem_cons_succ, List.setIfInBounds_toArray, List.set_cons_zero, List.set_cons_succ]
    refine wpAnyH_take (i := 11) (oi := _) (v := undef) rfl (by kernel_rfl) (by kernel_rfl) (by kernel_rfl) (fun _ _ _ h => h) (Or.inr ⟨by rfl, rfl⟩) (by assumption) ?_
    try simp only [Act.put, List.getElem_toArray, List.getElem_cons_zero, List.getElem_cons_succ, List.setIfInBounds_toArray, List.set_cons_zero, List.set_cons_succ]
    refine wpAnyH_take (i := 12) (oi := _) (v := undef) rfl (by kernel_rfl) (by kernel_rfl) (by kernel_rfl) (fun _ _ _ h => h) (Or.inr ⟨by rfl, rfl⟩) (by assumption) ?_
    try simp only [Act.put, List.getElem_toArray, List.getElem_cons_zero, List.getElem_cons_succ, List.setIfInBounds_toArray, List.set_cons_zero, List.set_cons_succ]
    refine wpAnyH_take (i := 13) (oi := _) (v := undef) rfl (by kernel_rfl) (by kernel_rfl) (by kernel_rfl) (fun _ _ _ h => h) (Or.inr ⟨by rfl, rfl⟩) (by assumption) ?_
    try simp only [Act.put, List.getElem_toArray, List.getElem_cons_zero, List.getElem_cons_succ, List.setIfInBounds_toArray, List.set_cons_zero, List.set_cons_succ]
    refine wpAnyH_take (i := 14) (oi := _) (v := undef) rfl (by kernel_rfl) (by kernel_rfl) (by kernel_rfl) (fun _ _ _ h => h) (Or.inr ⟨by rfl, rfl⟩) (by assumption) ?_
    try simp only [Act.put, List.getElem_toArray, List.getElem_cons_zero, List.getElem_cons_succ, List.setIfInBounds_toArray, List.set_cons_zero, List.set_cons_succ]
    refine wpAnyH_take (i := 15) (oi := _) (v := undef) rfl (by kernel_rfl) (by kernel_rfl) (by kernel_rfl) (fun _ _ _ h => h) (Or.inr ⟨by rfl, rfl⟩) (by assumption) ?_
    try simp only [Act.put, List.getElem_toArray, List.getElem_cons_zero, List.getElem_cons_succ, List.setIfInBounds_toArray, List.set_cons_zero, List.set_cons_succ]
    refine wpAnyH_take (i := 16) (oi := _) (v := (.bool true)) rfl (by kernel_rfl) (by kernel_rfl) (by kernel_rfl) (fun _ _ _ h => h) (Or.inl ⟨by rfl, ?_⟩) (by assumption) ?_
    · intro w hSw
      go_simp
      try with_reducible rfl
    try simp only [Act.put, List.getElem_toArray, List.getElem_cons_zero, List.getElem_cons_succ, List.setIfInBounds_toArray, List.set_cons_zero, List.set_cons_succ]
    refine wpAnyH_done (by kernel_rfl) ?_ _
    go_wp2
    go_ret
    exact ⟨rfl, Hf0.out.trans hf2⟩
  | true =>
    go_enter Tryd.func5, Tryd.ntmps5
    go_wp2_with fail
    rw [← Hwb.out]
    refine Hs.out.mono ?_
    rintro e w1 ⟨rfl, hf1⟩
    have Hf1 := Lib.hid hf1
    clear hf1
    go_wp2_with fail
    refine wp_region_held_drew (S := fun wx => Fr [] wb wx ∧ Five wx w.heap.size x vn vt ∧ Five wx (w.heap.size + 1) y un ut) (by kernel_rfl) (HS.out _ Hf1.out.drew) (fun hHeld => ?_)
    refine wpAnyH_take (i := 0) (oi := _) (v := ?_) rfl (by kernel_rfl) (by kernel_rfl) (by kernel_rfl) (fun _ _ _ h => h) (Or.inl ⟨by rfl, ?_⟩) (by assumption) ?_
    rotate_left
    · intro w hSw
      obtain ⟨_, ⟨d0, d1, d2, d3, d4⟩, ⟨e0, e1, e2, e3, e4⟩⟩ := hSw
      go_simp
      try with_reducible rfl
    try simp only [Act.put, List.getElem_toArray, List.getElem_cons_zero, List.getElem_cons_succ, List.setIfInBounds_toArray, List.set_cons_zero, List.set_cons_succ]
    have hf1 := Hf1.out
    refine wpAnyH_ready (rs := [1]) (by kernel_rfl) (by simp) ?_
    refine AllReadyH.cons (o := _) rfl (fun K hK => ?_) AllReadyH.nil
    go_simp
    refine hK.out _ _ (HS.out _ (by (repeat' (first | with_reducible exact Fr.refl _ _ | with_reducible assumption | with_reducible apply Fr.drew | with_reducible apply Fr.drewN | with_reducible apply Fr.alloc | (with_reducible refine Fr.set ?_ (.inr (by first | exact Nat.le_refl _ | exact Nat.le_succ _ | (simp; done) | (simp; omega))) _))))) (fun hHeld => ?_)
    clear hK K
    try simp only [Act.put, List.getElem_toArray, List.getElem_cons_zero, List.getElem_cons_succ, List.setIfInBounds_toArray, List.set_cons_zero, List.set_cons_succ]
    refine wpAnyH_ready (rs := [2]) (by kernel_rfl) (by simp) ?_
    refine AllReadyH.cons (o := _) rfl (fun K hK => ?_) AllReadyH.nil
    go_simp
    go_at_call 12
    have hrw : Row (w1.alloc (.cells #[.int .i64 x.kind, .int .i64 x.num, .string ⟨x.text.toArray⟩, vn, vt] 25)).drew w1.heap.size 25 (wcells x vn vt) := Row.drew (row_new w1 _ #[.int .i64 x.kind, .int .i64 x.num, .string ⟨x.text.toArray⟩, vn, vt] _ rfl)
    have hfw : Fr [] wb (w1.alloc (.cells #[.int .i64 x.kind, .int .i64 x.num, .string ⟨x.text.toArray⟩, vn, vt] 25)).drew := by (repeat' (first | with_reducible exact Fr.refl _ _ | with_reducible assumption | with_reducible apply Fr.drew | with_reducible apply Fr.drewN | with_reducible apply Fr.alloc | (with_reducible refine Fr.set ?_ (.inr (by first | exact Nat.le_refl _ | exact Nat.le_succ _ | (simp; done) | (simp; omega))) _)))
    have hcc := Hwx.out _ _ hfw hrw
    refine hcc.mono ?_
    rintro e w2 ⟨rfl, hf2⟩
    refine hK.out _ _ (HS.out _ hf2) (fun hHeld => ?_)
    clear hK K
    try simp only [Act.put, List.getElem_toArray, List.getElem_cons_zero, List.getElem_cons_succ, List.setIfInBounds_toArray, List.set_cons_zero, List.set_cons_succ]
    clear hrw hfw hcc hf1
    have Hf2 := Lib.hid hf2
    cases r' with
    | false =>
      refine wpAnyH_take (i := 3) (oi := _) (v := (.bool false)) rfl (by kernel_rfl) (by kernel_rfl) (by kernel_rfl) (fun _ _ _ h => h) (Or.inl ⟨by rfl, ?_⟩) (by assumption) ?_
      · intro w hSw
        go_simp
        try with_reducible rfl
      try simp only [Act.put, List.getElem_toArray, List.getElem_cons_zero, List.getElem_cons_succ, List.setIfInBounds_toArray, List.set_cons_zero, List.set_cons_succ]
      refine wpAnyH_take (i := 4) (oi := _) (v := (.bool false)) rfl (by kernel_rfl) (by kernel_rfl) (by kernel_rfl) (fun _ _ _ h => h) (Or.inl ⟨by rfl, ?_⟩) (by assumption) ?_
      · intro w hSw
        go_simp
        try with_reducible rfl
      try simp only [Act.put, List.getElem_toArray, List.getElem_cons_zero, List.getElem_cons_succ, List.setIfInBounds_toArray, List.set_cons_zero, List.set_cons_succ]
      refine wpAnyH_take (i := 5) (oi := _) (v := ?_) rfl (by kernel_rfl) (by kernel_rfl) (by kernel_rfl) (fun _ _ _ h => h) (Or.inl ⟨by rfl, ?_⟩) (by assumption) ?_
      rotate_left
      · intro w hSw
        obtain ⟨_, ⟨d0, d1, d2, d3, d4⟩, ⟨e0, e1, e2, e3, e4⟩⟩ := hSw
        go_simp
        try with_reducible rfl
      try simp only [Act.put, List.getElem_toArray, List.getElem_cons_zero, List.getElem_cons_succ, List.setIfInBounds_toArray, List.set_cons_zero, List.set_cons_succ]
      refine wpAnyH_ready (rs := [6]) (by kernel_rfl) (by simp) ?_
      refine AllReadyH.cons (o := _) rfl (fun K hK => ?_) AllReadyH.nil
      go_simp
      refine hK.out _ _ (HS.out _ (by (repeat' (first | with_reducible exact Fr.refl _ _ | with_reducible assumption | with_reducible apply Fr.drew | with_reducible apply Fr.drewN | with_reducible apply Fr.alloc | (with_reducible refine Fr.set ?_ (.inr (by first | exact Nat.le_refl _ | exact Nat.le_succ _ | (simp; done) | (simp; omega))) _))))) (fun hHeld => ?_)
      clear hK K
      try simp only [Act.put, List.getElem_toArray, List.getElem_cons_zero, List.getElem_cons_succ, List.setIfInBounds_toArray, List.set_cons_zero, List.set_cons_succ]
      refine wpAnyH_ready (rs := [7]) (by kernel_rfl) (by simp) ?_
      refine AllReadyH.cons (o := _) rfl (fun K hK => ?_) AllReadyH.nil
      go_simp
      go_at_call 12
      have hrw : Row (w2.alloc (.cells #[.int .i64 y.kind, .int .i64 y.num, .string ⟨y.text.toArray⟩, un, ut] 25)) w2.heap.size 25 (wcells y un ut) := row_new w2 _ #[.int .i64 y.kind, .int .i64 y.num, .string ⟨y.text.toArray⟩, un, ut] _ rfl
      have hfw : Fr [] wb (w2.alloc (.cells #[.int .i64 y.kind, .int .i64 y.num, .string ⟨y.text.toArray⟩, un, ut] 25)) := by (repeat' (first | with_reducible exact Fr.refl _ _ | with_reducible assumption | with_reducible apply Fr.drew | with_reducible apply Fr.drewN | with_reducible apply Fr.alloc | (with_reducible refine Fr.set ?_ (.inr (by first | exact Nat.le_refl _ | exact Nat.le_succ _ | (simp; done) | (simp; omega))) _)))
      have hcc := Hwy.out _ _ hfw hrw
      refine hcc.mono ?_
      rintro e w3 ⟨rfl, hf3⟩
      refine hK.out _ _ (HS.out _ hf3) (fun hHeld => ?_)
      clear hK K
      try simp only [Act.put, List.getElem_toArray, List.getElem_cons_zero, List.getElem_cons_succ, List.setIfInBounds_toArray, List.set_cons_zero, List.set_cons_succ]
      clear hrw hfw hcc hf2
      have Hf3 := Lib.hid hf3
      refine wpAnyH_take (i := 8) (oi := _) (v := (.bool true)) rfl (by kernel_rfl) (by kernel_rfl) (by kernel_rfl) (fun _ _ _ h => h) (Or.inl ⟨by rfl, ?_⟩) (by assumption) ?_
      · intro w hSw
        go_simp
        try with_reducible rfl
      try simp only [Act.put, List.getElem_toArray, List.getElem_cons_zero, List.getElem_cons_succ, List.setIfInBounds_toArray, List.set_cons_zero, List.set_cons_succ]
      refine wpAnyH_take (i := 9) (oi := _) (v := (.bool true)) rfl (by kernel_rfl) (by kernel_rfl) (by kernel_rfl) (fun _ _ _ h => h) (Or.inl ⟨by rfl, ?_⟩) (by assumption) ?_
      · intro w hSw
        go_simp
        try with_reducible rfl
      try simp only [Act.put, List.getElem_toArray, List.getElem_cons_zero, List.getElem_cons_succ, List.setIfInBounds_toArray, List.set_cons_zero, List.set_cons_succ]
      refine wpAnyH_take (i := 10) (oi := _) (v := (.bool true)) rfl (by kernel_rfl) (by kernel_rfl) (by kernel_rfl) (fun _ _ _ h => h) (Or.inl ⟨by rfl, ?_⟩) (by assumption) ?_
      · intro w hSw
        go_simp
        try with_reducible rfl
      try simp only [Act.put, List.getElem_toArray, List.getElem_cons_zero, List.getElem_cons_succ, List.setIfInBounds_toArray, List.set_cons_zero, List.set_cons_succ]
      refine wpAnyH_take (i := 11) (oi := _) (v := undef) rfl (by kernel_rfl) (by kernel_rfl) (by kernel_rfl) (fun _ _ _ h => h) (Or.inr ⟨by rfl, rfl⟩) (by assumption) ?_
      try simp only [Act.put, List.getElem_toArray, List.getElem_cons_zero, List.getElem_cons_succ, List.setIfInBounds_toArray, List.set_cons_zero, List.set_cons_succ]
      refine wpAnyH_take (i := 12) (oi := _) (v := undef) rfl (by kernel_rfl) (by kernel_rfl) (by kernel_rfl) (fun _ _ _ h => h) (Or.inr ⟨by rfl, rfl⟩) (by assumption) ?_
      try simp only [Act.put, List.getElem_toArray, List.getElem_cons_zero, List.getElem_cons_succ, List.setIfInBounds_toArray, List.set_cons_zero, List.set_cons_succ]
      refine wpAnyH_take (i := 13) (oi := _) (v := undef) rfl (by kernel_rfl) (by kernel_rfl) (by kernel_rfl) (fun _ _ _ h => h) (Or.inr ⟨by rfl, rfl⟩) (by assumption) ?_
      try simp only [Act.put, List.getElem_toArray, List.getElem_cons_zero, List.getElem_cons_succ, List.setIfInBounds_toArray, List.set_cons_zero, List.set_cons_succ]
      refine wpAnyH_take (i := 14) (oi := _) (v := undef) rfl (by kernel_rfl) (by kernel_rfl) (by kernel_rfl) (fun _ _ _ h => h) (Or.inr ⟨by rfl, rfl⟩) (by assumption) ?_
      try simp only [Act.put, List.getElem_toArray, List.getElem_cons_zero, List.getElem_cons_succ, List.setIfInBounds_toArray, List.set_cons_zero, List.set_cons_succ]
      refine wpAnyH_take (i := 15) (oi := _) (v := undef) rfl (by kernel_rfl) (by kernel_rfl) (by kernel_rfl) (fun _ _ _ h => h) (Or.inr ⟨by rfl, rfl⟩) (by assumption) ?_
      try simp only [Act.put, List.getElem_toArray, List.getElem_cons_zero, List.getElem_cons_succ, List.setIfInBounds_toArray, List.set_cons_zero, List.set_cons_succ]
      refine wpAnyH_take (i := 16) (oi := _) (v := (.bool true)) rfl (by kernel_rfl) (by kernel_rfl) (by kernel_rfl) (fun _ _ _ h => h) (Or.inl ⟨by rfl, ?_⟩) (by assumption) ?_
      · intro w hSw
        go_simp
        try with_reducible rfl
      try simp only [Act.put, List.getElem_toArray, List.getElem_cons_zero, List.getElem_cons_succ, List.setIfInBounds_toArray, List.set_cons_zero, List.set_cons_succ]
      refine wpAnyH_done (by kernel_rfl) ?_ _
      go_wp2
      go_ret
      exact ⟨rfl, Hf0.out.trans Hf3.out⟩
    | true =>
      obtain ⟨_, hsx, _⟩ : Few [(x, vn, vt)] := HR.out.1 (by trivial)
      obtain ⟨_, hsy, _⟩ : Few [(y, un, ut)] := HR'.out.1 (by trivial)
      have SX : Hid x.Small := hsx (x, vn, vt) (by simp)
      have SY : Hid y.Small := hsy (y, un, ut) (by simp)
      have HKX : Hid (∀ w', Calls Tryd.prog 24 #[.agg #[.int .i64 x.kind, .int .i64 x.num, .string ⟨x.text.toArray⟩, vn, vt]] w' fun e w'' => e = .returned (.int .i64 (x.kind % 5)) ∧ Fr [] w' w'') := fun w' => kind_any x.kind HX.out.kind.1 HX.out.kind.2 _ _ _ _ w'
      have HKY : Hid (∀ w', Calls Tryd.prog 24 #[.agg #[.int .i64 y.kind, .int .i64 y.num, .string ⟨y.text.toArray⟩, un, ut]] w' fun e w'' => e = .returned (.int .i64 (y.kind % 5)) ∧ Fr [] w' w'') := fun w' => kind_any y.kind HY.out.kind.1 HY.out.kind.2 _ _ _ _ w'
      clear hsx hsy
      obtain ⟨kx, hkx⟩ : ∃ kx, kx = x.kind % 5 := ⟨_, rfl⟩
      obtain ⟨ky, hky⟩ : ∃ ky, ky = y.kind % 5 := ⟨_, rfl⟩
      rw [← hkx] at HKX
      rw [← hky] at HKY
      have Hkx := Lib.hid hkx
      have Hky := Lib.hid hky
      clear hkx hky
      refine wpAnyH_take (i := 3) (oi := _) (v := (.bool false)) rfl (by kernel_rfl) (by kernel_rfl) (by kernel_rfl) (fun _ _ _ h => h) (Or.inl ⟨by rfl, ?_⟩) (by assumption) ?_
      · intro w hSw
        go_simp
        try with_reducible rfl
      try simp only [Act.put, List.getElem_toArray, List.getElem_cons_zero, List.getElem_cons_succ, List.setIfInBounds_toArray, List.set_cons_zero, List.set_cons_succ]
      refine wpAnyH_take (i := 4) (oi := _) (v := (.bool false)) rfl (by kernel_rfl) (by kernel_rfl) (by kernel_rfl) (fun _ _ _ h => h) (Or.inl ⟨by rfl, ?_⟩) (by assumption) ?_
      · intro w hSw
        go_simp
        try with_reducible rfl
      try simp only [Act.put, List.getElem_toArray, List.getElem_cons_zero, List.getElem_cons_succ, List.setIfInBounds_toArray, List.set_cons_zero, List.set_cons_succ]
      refine wpAnyH_take (i := 5) (oi := _) (v := ?_) rfl (by kernel_rfl) (by kernel_rfl) (by kernel_rfl) (fun _ _ _ h => h) (Or.inl ⟨by rfl, ?_⟩) (by assumption) ?_
      rotate_left
      · intro w hSw
        obtain ⟨_, ⟨d0, d1, d2, d3, d4⟩, ⟨e0, e1, e2, e3, e4⟩⟩ := hSw
        go_simp
        try with_reducible rfl
      try simp only [Act.put, List.getElem_toArray, List.getElem_cons_zero, List.getElem_cons_succ, List.setIfInBounds_toArray, List.set_cons_zero, List.set_cons_succ]
      refine wpAnyH_ready (rs := [6]) (by kernel_rfl) (by simp) ?_
      refine AllReadyH.cons (o := _) rfl (fun K hK => ?_) AllReadyH.nil
      go_simp
      refine hK.out _ _ (HS.out _ (by (repeat' (first | with_reducible exact Fr.refl _ _ | with_reducible assumption | with_reducible apply Fr.drew | with_reducible apply Fr.drewN | with_reducible apply Fr.alloc | (with_reducible refine Fr.set ?_ (.inr (by first | exact Nat.le_refl _ | exact Nat.le_succ _ | (simp; done) | (simp; omega))) _))))) (fun hHeld => ?_)
      clear hK K
      try simp only [Act.put, List.getElem_toArray, List.getElem_cons_zero, List.getElem_cons_succ, List.setIfInBounds_toArray, List.set_cons_zero, List.set_cons_succ]
      refine wpAnyH_ready (rs := [7]) (by kernel_rfl) (by simp) ?_
      refine AllReadyH.cons (o := _) rfl (fun K hK => ?_) AllReadyH.nil
      go_simp
      go_at_call 12
      have hrw : Row (w2.alloc (.cells #[.int .i64 y.kind, .int .i64 y.num, .string ⟨y.text.toArray⟩, un, ut] 25)) w2.heap.size 25 (wcells y un ut) := row_new w2 _ #[.int .i64 y.kind, .int .i64 y.num, .string ⟨y.text.toArray⟩, un, ut] _ rfl
      have hfw : Fr [] wb (w2.alloc (.cells #[.int .i64 y.kind, .int .i64 y.num, .string ⟨y.text.toArray⟩, un, ut] 25)) := by (repeat' (first | with_reducible exact Fr.refl _ _ | with_reducible assumption | with_reducible apply Fr.drew | with_reducible apply Fr.drewN | with_reducible apply Fr.alloc | (with_reducible refine Fr.set ?_ (.inr (by first | exact Nat.le_refl _ | exact Nat.le_succ _ | (simp; done) | (simp; omega))) _)))
      have hcc := Hwy.out _ _ hfw hrw
      refine hcc.mono ?_
      rintro e w3 ⟨rfl, hf3⟩
      refine hK.out _ _ (HS.out _ hf3) (fun hHeld => ?_)
      clear hK K
      try simp only [Act.put, List.getElem_toArray, List.getElem_cons_zero, List.getElem_cons_succ, List.setIfInBounds_toArray, List.set_cons_zero, List.set_cons_succ]
      clear hrw hfw hcc hf2
      have Hf3 := Lib.hid hf3
      by_cases hkk : kx = ky
      · subst hkk
        refine wpAnyH_take (i := 8) (oi := _) (v := (.bool false)) rfl (by kernel_rfl) (by kernel_rfl) (by kernel_rfl) (fun _ _ _ h => h) (Or.inl ⟨by rfl, ?_⟩) (by assumption) ?_
        · intro w hSw
          go_simp
          try with_reducible rfl
        try simp only [Act.put, List.getElem_toArray, List.getElem_cons_zero, List.getElem_cons_succ, List.setIfInBounds_toArray, List.set_cons_zero, List.set_cons_succ]
        refine wpAnyH_take (i := 9) (oi := _) (v := (.bool false)) rfl (by kernel_rfl) (by kernel_rfl) (by kernel_rfl) (fun _ _ _ h => h) (Or.inl ⟨by rfl, ?_⟩) (by assumption) ?_
        · intro w hSw
          go_simp
          try with_reducible rfl
        try simp only [Act.put, List.getElem_toArray, List.getElem_cons_zero, List.getElem_cons_succ, List.setIfInBounds_toArray, List.set_cons_zero, List.set_cons_succ]
        refine wpAnyH_take (i := 10) (oi := _) (v := (.bool false)) rfl (by kernel_rfl) (by kernel_rfl) (by kernel_rfl) (fun _ _ _ h => h) (Or.inl ⟨by rfl, ?_⟩) (by assumption) ?_
        · intro w hSw
          go_simp
          try with_reducible rfl
        try simp only [Act.put, List.getElem_toArray, List.getElem_cons_zero, List.getElem_cons_succ, List.setIfInBounds_toArray, List.set_cons_zero, List.set_cons_succ]
        refine wpAnyH_take (i := 11) (oi := _) (v := ?_) rfl (by kernel_rfl) (by kernel_rfl) (by kernel_rfl) (fun _ _ _ h => h) (Or.inl ⟨by rfl, ?_⟩) (by assumption) ?_
        rotate_left
        · intro w hSw
          obtain ⟨_, ⟨d0, d1, d2, d3, d4⟩, ⟨e0, e1, e2, e3, e4⟩⟩ := hSw
          go_simp
          try with_reducible rfl
        try simp only [Act.put, List.getElem_toArray, List.getElem_cons_zero, List.getElem_cons_succ, List.setIfInBounds_toArray, List.set_cons_zero, List.set_cons_succ]
        refine wpAnyH_take (i := 13) (oi := _) (v := ?_) rfl (by kernel_rfl) (by kernel_rfl) (by kernel_rfl) (fun _ _ _ h => h) (Or.inl ⟨by rfl, ?_⟩) (by assumption) ?_
        rotate_left
        · intro w hSw
          obtain ⟨_, ⟨d0, d1, d2, d3, d4⟩, ⟨e0, e1, e2, e3, e4⟩⟩ := hSw
          go_simp
          try with_reducible rfl
        try simp only [Act.put, List.getElem_toArray, List.getElem_cons_zero, List.getElem_cons_succ, List.setIfInBounds_toArray, List.set_cons_zero, List.set_cons_succ]
        refine wpAnyH_ready (rs := [12]) (by kernel_rfl) (by simp) ?_
        refine AllReadyH.cons (o := _) rfl (fun K hK => ?_) AllReadyH.nil
        go_simp
        go_at_call 24
        refine (HKX.out _).mono ?_
        rintro e w4 ⟨rfl, hf4⟩
        refine hK.out _ _ (HS.out _ (hf3.trans hf4)) (fun hHeld => ?_)
        clear hK K
        try simp only [Act.put, List.getElem_toArray, List.getElem_cons_zero, List.getElem_cons_succ, List.setIfInBounds_toArray, List.set_cons_zero, List.set_cons_succ]
        refine wpAnyH_ready (rs := [14]) (by kernel_rfl) (by simp) ?_
        refine AllReadyH.cons (o := _) rfl (fun K hK => ?_) AllReadyH.nil
        go_simp
        go_at_call 24
        refine (HKY.out _).mono ?_
        rintro e w5 ⟨rfl, hf5⟩
        refine hK.out _ _ (HS.out _ ((hf3.trans hf4).trans hf5)) (fun hHeld => ?_)
        clear hK K
        try simp only [Act.put, List.getElem_toArray, List.getElem_cons_zero, List.getElem_cons_succ, List.setIfInBounds_toArray, List.set_cons_zero, List.set_cons_succ]
        have Hf5 := Lib.hid ((hf3.trans hf4).trans hf5)
        clear hf3 hf4 hf5
        refine wpAnyH_take (i := 15) (oi := _) (v := (.bool false)) rfl (by kernel_rfl) (by kernel_rfl) (by kernel_rfl) (fun _ _ _ h => h) (Or.inl ⟨by rfl, ?_⟩) (by assumption) ?_
        · intro w hSw
          go_simp
          try with_reducible rfl
        try simp only [Act.put, List.getElem_toArray, List.getElem_cons_zero, List.getElem_cons_succ, List.setIfInBounds_toArray, List.set_cons_zero, List.set_cons_succ]
        refine wpAnyH_take (i := 16) (oi := _) (v := (.bool false)) rfl (by kernel_rfl) (by kernel_rfl) (by kernel_rfl) (fun _ _ _ h => h) (Or.inl ⟨by rfl, ?_⟩) (by assumption) ?_
        · intro w hSw
          go_simp
          try with_reducible rfl
        try simp only [Act.put, List.getElem_toArray, List.getElem_cons_zero, List.getElem_cons_succ, List.setIfInBounds_toArray, List.set_cons_zero, List.set_cons_succ]
        refine wpAnyH_done (by kernel_rfl) ?_ _
        have Hpre : Hid (∀ r, y.enc = x.enc ++ r → r = []) := fun r => enc_prefix x y HX.out SX.out HY.out SY.out (Hkx.out.symm.trans Hky.out) r
        have hbx := enc_bound x HX.out SX.out
        have hby := enc_bound y HY.out SY.out
        have HW1 : Hid (∀ w', Fr [] wb w' → Calls Tryd.prog 32 #[.agg #[.int .i64 x.kind, .int .i64 x.num, .string ⟨x.text.toArray⟩, vn, vt]] w' fun e w'' => e = .returned (.string ⟨x.enc.toArray⟩) ∧ Fr [] w' w'') := fun w' hf => write_any x vn vt B B0 w' (H.out.quiet (Hf0.out.trans hf)) (HV.out.quiet (Hf0.out.trans hf)) HX.out SX.out
        have HW2 : Hid (∀ w', Fr [] wb w' → Calls Tryd.prog 32 #[.agg #[.int .i64 y.kind, .int .i64 y.num, .string ⟨y.text.toArray⟩, un, ut]] w' fun e w'' => e = .returned (.string ⟨y.enc.toArray⟩) ∧ Fr [] w' w'') := fun w' hf => write_any y un ut B B0 w' (H.out.quiet (Hf0.out.trans hf)) (HU.out.quiet (Hf0.out.trans hf)) HY.out SY.out
        have HE : Hid (∀ w1 a, Fr [] wb w1 → w.heap.size ≤ a → RdIs w1 a (y.enc, false) → Calls Tryd.prog 33 #[.pointer (some ⟨a, 0, none⟩), .agg #[.int .i64 y.kind, .int .i64 y.num, .string ⟨y.text.toArray⟩, un, ut]] w1 fun e w' => e = .returned (.bool true) ∧ Fr [a] w1 w') := fun w1 a h1 h2 h3 => (equal_any y un ut B B0 a [] w1 (H.out.quiet (Hf0.out.trans h1)) (by have := H.out.le; omega) (by rw [List.append_nil]; exact h3) (HU.out.quiet (Hf0.out.trans h1)) (by omega) HY.out SY.out (by rw [List.append_nil]; omega)).mono fun e w' h => ⟨h.1, h.2.2⟩
        generalize x.enc = s at *
        generalize y.enc = t at *
        have hss := size_l s
        have hst := size_l t
        obtain ⟨-, ⟨d0, d1, d2, d3, d4⟩, -⟩ := HS.out _ Hf5.out
        go_wp2_with fail
        refine (HW1.out _ Hf5.out).mono ?_
        rintro e w6 ⟨rfl, hf6⟩
        have Hf6 := Lib.hid (Hf5.out.trans hf6)
        clear hf6 d0 d1 d2 d3 d4
        obtain ⟨-, -, ⟨d0, d1, d2, d3, d4⟩⟩ := HS.out _ Hf6.out
        go_wp2_with fail
        refine (HW2.out _ Hf6.out).mono ?_
        rintro e w7 ⟨rfl, hf7⟩
        have Hf7 := Lib.hid (Hf6.out.trans hf7)
        clear hf7 d0 d1 d2 d3 d4
        by_cases hlen : (t.length : Int) < s.length
        · go_wp2
          go_ret
          exact ⟨rfl, Hf0.out.trans Hf7.out⟩
        · have hdl : decide ((t.length : Int) < s.length) = false := decide_eq_false hlen
          by_cases heq : t.take s.length = s
          · have hts : t = s := by
              have h1 : t = s ++ t.drop s.length := by
                conv => lhs; rw [← List.take_append_drop s.length t, heq]
              have h2 := Hpre.out _ h1
              rw [h2, List.append_nil] at h1
              exact h1
            subst hts
            have hex : (⟨t.toArray⟩ : ByteArray).extract 0 t.length = ⟨t.toArray⟩ := by rw [ext_take, heq]
            clear heq Hpre
            go_wp2_with fail
            refine (open_any t _).mono ?_
            rintro e w8 ⟨a, rfl, ha, hr8, hf8⟩
            have Hf8 := Lib.hid (Hf7.out.trans hf8)
            have hwa : w.heap.size ≤ a := Nat.le_trans (Hf0.out.trans Hf7.out).size ha
            have He := Lib.hid (HE.out w8 a Hf8.out hwa hr8)
            clear hf8 hr8 ha
            obtain ⟨-, -, ⟨d0, d1, d2, d3, d4⟩⟩ := HS.out _ Hf8.out
            go_wp2_with fail
            refine He.out.mono ?_
            rintro e w9 ⟨rfl, hf9⟩
            have Hf9 := Lib.hid ((Hf0.out.trans Hf8.out).then hf9 (fun j hj => .inr (by have e : j = a := (by simpa using hj); omega)))
            clear hf9
            go_wp2
            go_ret
            exact ⟨rfl, Hf9.out⟩
          · have hmin : min (s.length : Int) (t.length : Int) = s.length := by omega
            have hsl : (s.length : Int) ≤ t.length := by omega
            have hsl2 : s.length ≤ t.length := by omega
            have hex : (⟨t.toArray⟩ : ByteArray).extract 0 s.length = ⟨(t.take s.length).toArray⟩ := ext_take t _
            obtain ⟨q, hq⟩ : ∃ q, q = t.take s.length := ⟨_, rfl⟩
            rw [← hq] at hex heq
            have hne : ((⟨q.toArray⟩ : ByteArray) = ⟨s.toArray⟩) = False := by
              apply eq_false
              intro h
              apply heq
              have := congrArg (fun x : ByteArray => x.data.toList) h
              simpa using this
            have hqs : (q == s) = false := beq_eq_false_iff_ne.2 heq
            clear hq
            go_wp2
            go_ret
            exact ⟨rfl, Hf0.out.trans Hf7.out⟩
      · skip
        refine wpAnyH_take (i := 8) (oi := _) (v := (.bool false)) rfl (by kernel_rfl) (by kernel_rfl) (by kernel_rfl) (fun _ _ _ h => h) (Or.inl ⟨by rfl, ?_⟩) (by assumption) ?_
        · intro w hSw
          go_simp
          try with_reducible rfl
        try simp only [Act.put, List.getElem_toArray, List.getElem_cons_zero, List.getElem_cons_succ, List.setIfInBounds_toArray, List.set_cons_zero, List.set_cons_succ]
        refine wpAnyH_take (i := 9) (oi := _) (v := (.bool false)) rfl (by kernel_rfl) (by kernel_rfl) (by kernel_rfl) (fun _ _ _ h => h) (Or.inl ⟨by rfl, ?_⟩) (by assumption) ?_
        · intro w hSw
          go_simp
          try with_reducible rfl
        try simp only [Act.put, List.getElem_toArray, List.getElem_cons_zero, List.getElem_cons_succ, List.setIfInBounds_toArray, List.set_cons_zero, List.set_cons_succ]
        refine wpAnyH_take (i := 10) (oi := _) (v := (.bool false)) rfl (by kernel_rfl) (by kernel_rfl) (by kernel_rfl) (fun _ _ _ h => h) (Or.inl ⟨by rfl, ?_⟩) (by assumption) ?_
        · intro w hSw
          go_simp
          try with_reducible rfl
        try simp only [Act.put, List.getElem_toArray, List.getElem_cons_zero, List.getElem_cons_succ, List.setIfInBounds_toArray, List.set_cons_zero, List.set_cons_succ]
        refine wpAnyH_take (i := 11) (oi := _) (v := ?_) rfl (by kernel_rfl) (by kernel_rfl) (by kernel_rfl) (fun _ _ _ h => h) (Or.inl ⟨by rfl, ?_⟩) (by assumption) ?_
        rotate_left
        · intro w hSw
          obtain ⟨_, ⟨d0, d1, d2, d3, d4⟩, ⟨e0, e1, e2, e3, e4⟩⟩ := hSw
          go_simp
          try with_reducible rfl
        try simp only [Act.put, List.getElem_toArray, List.getElem_cons_zero, List.getElem_cons_succ, List.setIfInBounds_toArray, List.set_cons_zero, List.set_cons_succ]
        refine wpAnyH_take (i := 13) (oi := _) (v := ?_) rfl (by kernel_rfl) (by kernel_rfl) (by kernel_rfl) (fun _ _ _ h => h) (Or.inl ⟨by rfl, ?_⟩) (by assumption) ?_
        rotate_left
        · intro w hSw
          obtain ⟨_, ⟨d0, d1, d2, d3, d4⟩, ⟨e0, e1, e2, e3, e4⟩⟩ := hSw
          go_simp
          try with_reducible rfl
        try simp only [Act.put, List.getElem_toArray, List.getElem_cons_zero, List.getElem_cons_succ, List.setIfInBounds_toArray, List.set_cons_zero, List.set_cons_succ]
        refine wpAnyH_ready (rs := [12]) (by kernel_rfl) (by simp) ?_
        refine AllReadyH.cons (o := _) rfl (fun K hK => ?_) AllReadyH.nil
        go_simp
        go_at_call 24
        refine (HKX.out _).mono ?_
        rintro e w4 ⟨rfl, hf4⟩
        refine hK.out _ _ (HS.out _ (hf3.trans hf4)) (fun hHeld => ?_)
        clear hK K
        try simp only [Act.put, List.getElem_toArray, List.getElem_cons_zero, List.getElem_cons_succ, List.setIfInBounds_toArray, List.set_cons_zero, List.set_cons_succ]
        refine wpAnyH_ready (rs := [14]) (by kernel_rfl) (by simp) ?_
        refine AllReadyH.cons (o := _) rfl (fun K hK => ?_) AllReadyH.nil
        go_simp
        go_at_call 24
        refine (HKY.out _).mono ?_
        rintro e w5 ⟨rfl, hf5⟩
        refine hK.out _ _ (HS.out _ ((hf3.trans hf4).trans hf5)) (fun hHeld => ?_)
        clear hK K
        try simp only [Act.put, List.getElem_toArray, List.getElem_cons_zero, List.getElem_cons_succ, List.setIfInBounds_toArray, List.set_cons_zero, List.set_cons_succ]
        have Hf5 := Lib.hid ((hf3.trans hf4).trans hf5)
        clear hf3 hf4 hf5
        refine wpAnyH_take (i := 15) (oi := _) (v := (.bool true)) rfl (by kernel_rfl) (by kernel_rfl) (by kernel_rfl) (fun _ _ _ h => h) (Or.inl ⟨by rfl, ?_⟩) (by assumption) ?_
        · intro w hSw
          go_simp
          try with_reducible rfl
        try simp only [Act.put, List.getElem_toArray, List.getElem_cons_zero, List.getElem_cons_succ, List.setIfInBounds_toArray, List.set_cons_zero, List.set_cons_succ]
        refine wpAnyH_take (i := 16) (oi := _) (v := (.bool true)) rfl (by kernel_rfl) (by kernel_rfl) (by kernel_rfl) (fun _ _ _ h => h) (Or.inl ⟨by rfl, ?_⟩) (by assumption) ?_
        · intro w hSw
          go_simp
          try with_reducible rfl
        try simp only [Act.put, List.getElem_toArray, List.getElem_cons_zero, List.getElem_cons_succ, List.setIfInBounds_toArray, List.set_cons_zero, List.set_cons_succ]
        refine wpAnyH_done (by kernel_rfl) ?_ _
        go_wp2
        go_ret
        exact ⟨rfl, Hf0.out.trans Hf5.out⟩

end Go.Proofs.YthajdajhclpaaaaDoor
