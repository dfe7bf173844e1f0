/- Layer 1: a reader's numbers. -/
import Derived.Test.YthajdajhclpaaaaDoorWireQ
import Derived.StillTailTactics
import Derived.Deep.QuietTactic
import Derived.BigQuiet
import Derived.Deep.RegionHeld3
import Derived.Deep.RegionWith
namespace Go.Proofs.YthajdajhclpaaaaDoor
open Go.RowKit Go.Shelf Wr

theorem ext_l (l : List UInt8) (i j : Nat) : (⟨l.toArray⟩ : ByteArray).extract i j = ⟨((l.take j).drop i).toArray⟩ := by
  apply ByteArray.ext
  rw [ByteArray.data_extract]
  simp [List.extract_eq_take_drop, List.drop_take]
theorem ext_take (l : List UInt8) (j : Nat) : (⟨l.toArray⟩ : ByteArray).extract 0 j = ⟨(l.take j).toArray⟩ := by rw [ext_l]; simp
theorem ext_drop (l : List UInt8) (i j : Nat) (h : j = l.length) : (⟨l.toArray⟩ : ByteArray).extract i j = ⟨(l.drop i).toArray⟩ := by rw [ext_l, h, List.take_length]

theorem fr_bytes (w : World) (e : TypeId) (s : ByteArray) : Fr [] w (Lib.bytesWorld w e s) := by
  have h := Lib.bytesWorld_below w e s
  exact fr_below h
/-- What Atoi gives, and that no old block turns. -/
theorem atoi_any (l : List UInt8) (hl : l.length ≤ 1000) {B : Nat} {w : World} (hw : LW B w) : Calls Tryd.prog 89 #[.string ⟨l.toArray⟩] w fun e w' => Fr [] w w' ∧
    ((∃ v, Lib.atoiAll l = .ok v ∧ e = .returned (.tuple #[.int .i64 v, .nilIface])) ∨ ((∀ v, Lib.atoiAll l ≠ .ok v) ∧ ∃ x tp N, e = .returned (.tuple #[.int .i64 x, .iface tp (.pointer (some ⟨N, 0, none⟩))]))) := by
  have e1 : (⟨l.toArray⟩ : ByteArray).data.toList = l := rfl
  have hs := size_l l
  cases h : Lib.atoiAll l
  · rename_i v
    refine (Tryd.strconv_Atoi_ok ⟨l.toArray⟩ (by rw [hs]; omega) v (by rw [e1]; exact h) w).mono ?_
    rintro e w' ⟨rfl, hw'⟩
    refine ⟨?_, .inl ⟨v, rfl, rfl⟩⟩
    rcases hw' with rfl | ⟨t, rfl⟩
    · exact Fr.refl _ _
    · exact fr_bytes _ _ _
  · obtain ⟨tp, p, hv⟩ := hw.syn
    refine (Tryd.strconv_Atoi_syntax_var ⟨l.toArray⟩ (by rw [hs]; omega) (by rw [e1]; exact h) tp p w hv).mono ?_
    rintro e w' ⟨N, rfl, _, _, hb⟩
    exact ⟨fr_below hb, .inr ⟨(fun v hv => by cases hv), ⟨_, _, _, rfl⟩⟩⟩
  · obtain ⟨tp, p, hv⟩ := hw.rng
    refine (Tryd.strconv_Atoi_range_var ⟨l.toArray⟩ (by rw [hs]; omega) (by rw [e1]; exact h) tp p w hv).mono ?_
    rintro e w' ⟨N, rfl, _, _, hb⟩
    exact ⟨fr_below hb, .inr ⟨(fun v hv => by cases hv), ⟨_, _, _, rfl⟩⟩⟩

theorem LW.drewL {B : Nat} {w : World} (h : LW B w) : LW B w.drew := h.fr (S := []) (Fr.refl _ _).drew (by simp)
set_option maxRecDepth 100000 in
set_option maxHeartbeats 8000000 in
theorem number_any (a : Nat) (l : List UInt8) (b : Bool) (B : Nat) (w : World) (h : RdIs w a (l, b)) (hw : LW B w) (hB : B ≤ a) (ei least : Int) (e : UInt8) (he : ei.toNat.toUInt8 = e) (hl : l.length ≤ 1099511627776) :
    Calls Tryd.prog 66 #[.pointer (some ⟨a, 0, none⟩), .int .u8 ei, .int .i64 least] w fun en w' => en = .returned (.int .i64 (rnum e least (l, b)).1) ∧ RdIs w' a (rnum e least (l, b)).2 ∧ Fr [a] w w' := by
  have c0 : w.cell? ⟨a, 0, none⟩ = some (.string ⟨l.toArray⟩) := h.c0
  have z0 := h.z 0
  have H := Lib.hid h
  have HW := Lib.hid hw
  have HB := Lib.hid hB
  have hs := size_l l
  have Hs := Lib.hid hs
  clear h hw hB hs
  obtain ⟨k, hk⟩ : ∃ k : Nat, k = min l.length 21 := ⟨_, rfl⟩
  have hmin : min (l.length : Int) 21 = (k : Int) := by omega
  have hkl : (k : Int) ≤ l.length := by omega
  have hkl' : k ≤ l.length := by omega
  obtain ⟨hd, hhd⟩ : ∃ hd, hd = l.take 21 := ⟨_, rfl⟩
  have hex : (⟨l.toArray⟩ : ByteArray).extract 0 k = ⟨hd.toArray⟩ := by
    rw [ext_take, hhd, hk]
    congr 2
    exact (List.take_eq_take_iff.2 (by omega))
  have hhl : hd.length ≤ 21 := by rw [hhd, List.length_take]; omega
  have hhl2 : hd.length ≤ l.length := by rw [hhd, List.length_take]; omega
  have Hhd := Lib.hid hhd
  clear hk hhd
  go_enter Tryd.func66, Tryd.ntmps66
  go_wp2_with fail
  go_still_tail 11, (by kernel_rfl)
  change wpList _ _ _ _ _ w.drew
  rcases Int.lt_or_le (Lib.indexByte hd e) 0 with hneg | hpos
  · have hr : rnum e least (l, b) = (0, dead) := by
      have := Hhd.out
      simp [rnum, numR, ← this, hneg]
    have Hr := Lib.hid hr
    have hix := Tryd.strings_IndexByte ⟨hd.toArray⟩ ei w.drew
    rw [show (⟨hd.toArray⟩ : ByteArray).data.toList = hd from rfl, he] at hix
    have Hix := Lib.hid hix
    clear hr hix
    generalize Lib.indexByte hd e = ix at *
    go_wp2_with fail
    refine Hix.out.mono ?_
    rintro e' w1 ⟨rfl, rfl⟩
    go_wp2_with fail
    refine (fail_any a (l, b) _ (Row.drew H.out)).mono ?_
    rintro e' w2 ⟨rfl, h1, h2⟩
    have H1 := Lib.hid h1
    have H2 := Lib.hid h2
    clear h1 h2
    go_wp2
    go_ret
    rw [Hr.out]
    exact ⟨rfl, H1.out, (Fr.refl _ _).drew.trans H2.out⟩
  · obtain ⟨i, hi⟩ : ∃ i : Nat, Lib.indexByte hd e = i := ⟨(Lib.indexByte hd e).toNat, by omega⟩
    have hix := Tryd.strings_IndexByte ⟨hd.toArray⟩ ei w.drew
    rw [show (⟨hd.toArray⟩ : ByteArray).data.toList = hd from rfl, he, hi] at hix
    have Hix := Lib.hid hix
    have hil : i < hd.length := by
      obtain ⟨r, hr⟩ := index_some hd e i hi
      have := congrArg List.length hr
      rw [List.length_append, List.length_take, List.length_cons] at this
      omega
    obtain ⟨tx, htx⟩ : ∃ tx, tx = hd.take i := ⟨_, rfl⟩
    have hex2 : (⟨hd.toArray⟩ : ByteArray).extract 0 i = ⟨tx.toArray⟩ := by rw [ext_take, htx]
    have htl : tx.length = i := by rw [htx, List.length_take]; omega
    have hil' : (i : Int) ≤ hd.length := by omega
    have hszx : (⟨tx.toArray⟩ : ByteArray).size ≤ 1000 := by rw [size_l]; omega
    have Htl := Lib.hid htl
    have Hszx := Lib.hid hszx
    have hnum : (∀ v, Lib.atoiAll tx = .ok v → numR e least l = if Lib.itoa v = tx ∧ least ≤ v then some (v, l.drop (i + 1)) else none) ∧ ((∀ v, Lib.atoiAll tx ≠ .ok v) → numR e least l = none) := by
      have htk : l.take i = tx := by rw [htx, Hhd.out, List.take_take]; congr 1; omega
      unfold numR
      rw [← Hhd.out, hi, if_neg (by omega), Int.toNat_natCast, htk]
      refine ⟨fun v hv => by rw [hv], fun hno => ?_⟩
      cases h : Lib.atoiAll tx
      · rename_i v
        exact absurd h (hno v)
      · rfl
      · rfl
    have hat := atoi_any tx (by omega) (hw := HW.out.fr (S := []) ((Fr.refl _ _).drew) (by simp))
    have Hat := Lib.hid hat
    have Hnum := Lib.hid hnum
    clear hi hpos hix htx hnum htl hszx hat
    go_wp2_with fail
    refine Hix.out.mono ?_
    rintro e' w1 ⟨rfl, rfl⟩
    go_wp2_with fail
    refine Hat.out.mono ?_
    rintro e' w2 ⟨hf2, hcase⟩
    have Hf2 := Lib.hid ((Fr.refl [] w).drew.trans hf2)
    have hr2 : RdIs w2 a (l, b) := H.out.fr Hf2.out (by simp)
    have Hr2 := Lib.hid hr2
    have d0 : w2.cell? ⟨a, 0, none⟩ = some (.string ⟨l.toArray⟩) := hr2.c0
    have dz : w2.frozen? ⟨a, 0, none⟩ = false := hr2.z 0
    clear hf2 hr2 c0 z0
    rcases hcase with ⟨v, hv, rfl⟩ | ⟨hno, x, tp, N, rfl⟩
    · have hb := Lib.atoiAll_bounds hv
      have hn := Hnum.out.1 v hv
      have Hn := Lib.hid hn
      have Hit := Lib.hid (itoa_any (HW.out.quiet Hf2.out).drewL v hb)
      clear hv hn hb
      have hx : decide (least ≤ v) = !decide (v < least) := by
        by_cases h : v < least
        · rw [decide_eq_true h, decide_eq_false (by omega)]; rfl
        · rw [decide_eq_false h, decide_eq_true (by omega)]; rfl
      by_cases hvt : Lib.itoa v = tx
      · by_cases hlv : v < least
        · have hr : rnum e least (l, b) = (0, dead) := by
            unfold rnum
            simp only
            rw [Hn.out, if_neg (by omega)]
          have Hr := Lib.hid hr
          clear hr hx Hnum Hn Hat Hix
          subst hvt
          go_wp2_with fail
          go_region_held3 (fun _ => True) (trivial) (first | (go_at_call 62; refine Hit.out.mono ?_; rintro e w3 ⟨rfl, hf3⟩; have Hf3 := Lib.hid hf3; clear hf3))
          have hr3 : RdIs w3 a (l, b) := Hr2.out.fr (S := []) ((Fr.refl [] w2).drew.trans Hf3.out) (by simp)
          have Hr3 := Lib.hid hr3
          clear hr3
          go_wp2_with fail
          refine (fail_any a (l, b) _ Hr3.out).mono ?_
          rintro e' w4 ⟨rfl, h1, h2⟩
          have H1 := Lib.hid h1
          have H2 := Lib.hid h2
          clear h1 h2
          go_wp2
          go_ret
          rw [Hr.out]
          exact ⟨rfl, H1.out, ((Hf2.out.drew.trans Hf3.out).mono (by simp)).trans H2.out⟩
        · have hr : rnum e least (l, b) = (v, (l.drop (i + 1), b)) := by
            unfold rnum
            simp only
            rw [Hn.out, if_pos ⟨hvt, by omega⟩]
          have Hr := Lib.hid hr
          have hil1 : (i : Int) + 1 ≤ l.length := by omega
          have hw1 : IntKind.i64.wrap ((i : Int) + 1) = (i : Int) + 1 := by rw [IntKind.wrap_i64]; omega
          have hex3 : (⟨l.toArray⟩ : ByteArray).extract (i + 1) l.length = ⟨(l.drop (i + 1)).toArray⟩ := ext_drop l (i + 1) _ rfl
          clear hr hx Hnum Hn Hat Hix
          subst hvt
          go_wp2_with fail
          go_region_held3 (fun _ => True) (trivial) (first | (go_at_call 62; refine Hit.out.mono ?_; rintro e w3 ⟨rfl, hf3⟩; have Hf3 := Lib.hid hf3; clear hf3))
          have hr3 : RdIs w3 a (l, b) := Hr2.out.fr (S := []) ((Fr.refl [] w2).drew.trans Hf3.out) (by simp)
          have Hr3 := Lib.hid hr3
          have e0 : w3.cell? ⟨a, 0, none⟩ = some (.string ⟨l.toArray⟩) := hr3.c0
          have ez : w3.frozen? ⟨a, 0, none⟩ = false := hr3.z 0
          clear hr3 d0 dz
          go_wp2
          go_ret
          rw [Hr.out]
          exact ⟨rfl, Hr3.out.set0 _ _ rfl, Fr.set ((Hf2.out.drew.trans Hf3.out).mono (by simp)) (.inl (by simp)) _⟩
      · have hr : rnum e least (l, b) = (0, dead) := by
          unfold rnum
          simp only
          rw [Hn.out, if_neg (fun h => hvt h.1)]
        have Hr := Lib.hid hr
        have hne : ((⟨(Lib.itoa v).toArray⟩ : ByteArray) = ⟨tx.toArray⟩) = False := by
          apply eq_false
          intro h
          apply hvt
          have := congrArg (fun x : ByteArray => x.data.toList) h
          simpa using this
        have hnb : (Lib.itoa v == tx) = false := beq_eq_false_iff_ne.2 hvt
        clear hr hx Hnum Hn Hat Hix
        go_wp2_with fail
        refine wp_region_held_drew (S := fun _ => True) (by kernel_rfl) trivial (fun hHeld => ?_)
        refine wpAnyH_take (i := 0) (oi := _) (v := ?_) rfl (by kernel_rfl) (by kernel_rfl) (by kernel_rfl) (fun _ _ _ h => h) (Or.inl ⟨by rfl, ?_⟩) (by trivial) ?_
        rotate_left
        · intro w hSw
          go_simp
          try with_reducible rfl
        try simp only [Act.put, List.setIfInBounds_toArray, List.set_cons_zero, List.set_cons_succ]
        refine wpAnyH_take (i := 1) (oi := _) (v := ?_) rfl (by kernel_rfl) (by kernel_rfl) (by kernel_rfl) (fun _ _ _ h => h) (Or.inl ⟨by rfl, ?_⟩) (by trivial) ?_
        rotate_left
        · intro w hSw
          go_simp
          try with_reducible rfl
        try simp only [Act.put, List.setIfInBounds_toArray, List.set_cons_zero, List.set_cons_succ]
        refine wpAnyH_take (i := 2) (oi := _) (v := ?_) rfl (by kernel_rfl) (by kernel_rfl) (by kernel_rfl) (fun _ _ _ h => h) (Or.inl ⟨by rfl, ?_⟩) (by trivial) ?_
        rotate_left
        · intro w hSw
          go_simp
          try with_reducible rfl
        try simp only [Act.put, List.setIfInBounds_toArray, List.set_cons_zero, List.set_cons_succ]
        refine wpAnyH_take (i := 3) (oi := _) (v := ?_) rfl (by kernel_rfl) (by kernel_rfl) (by kernel_rfl) (fun _ _ _ h => h) (Or.inl ⟨by rfl, ?_⟩) (by trivial) ?_
        rotate_left
        · intro w hSw
          go_simp
          try with_reducible rfl
        try simp only [Act.put, List.setIfInBounds_toArray, List.set_cons_zero, List.set_cons_succ]
        refine wpAnyH_take (i := 5) (oi := _) (v := ?_) rfl (by kernel_rfl) (by kernel_rfl) (by kernel_rfl) (fun _ _ _ h => h) (Or.inl ⟨by rfl, ?_⟩) (by trivial) ?_
        rotate_left
        · intro w hSw
          go_simp
          try with_reducible rfl
        try simp only [Act.put, List.setIfInBounds_toArray, List.set_cons_zero, List.set_cons_succ]
        refine wpAnyH_take (i := 6) (oi := _) (v := ?_) rfl (by kernel_rfl) (by kernel_rfl) (by kernel_rfl) (fun _ _ _ h => h) (Or.inl ⟨by rfl, ?_⟩) (by trivial) ?_
        rotate_left
        · intro w hSw
          go_simp
          try with_reducible rfl
        try simp only [Act.put, List.setIfInBounds_toArray, List.set_cons_zero, List.set_cons_succ]
        refine wpAnyH_take (i := 7) (oi := _) (v := ?_) rfl (by kernel_rfl) (by kernel_rfl) (by kernel_rfl) (fun _ _ _ h => h) (Or.inl ⟨by rfl, ?_⟩) (by trivial) ?_
        rotate_left
        · intro w hSw
          go_simp
          try with_reducible rfl
        try simp only [Act.put, List.setIfInBounds_toArray, List.set_cons_zero, List.set_cons_succ]
        refine wpAnyH_ready (rs := [4]) (by kernel_rfl) (by simp) ?_
        refine AllReadyH.cons (o := _) rfl (fun K hK => ?_) AllReadyH.nil
        go_simp
        go_at_call 62
        refine Hit.out.mono ?_
        rintro e w3 ⟨rfl, hf3⟩
        have Hf3 := Lib.hid hf3
        clear hf3
        refine hK.out _ _ trivial (fun hHeld => ?_)
        clear hK K
        try simp only [Act.put, List.setIfInBounds_toArray, List.set_cons_zero, List.set_cons_succ]
        refine wpAnyH_take (i := 8) (oi := _) (v := .bool true) rfl (by kernel_rfl) (by kernel_rfl) (by kernel_rfl) (fun _ _ _ h => h) (Or.inl ⟨by rfl, ?_⟩) (by trivial) ?_
        · intro w hSw
          go_simp
          try with_reducible rfl
        try simp only [Act.put, List.setIfInBounds_toArray, List.set_cons_zero, List.set_cons_succ]
        refine wpAnyH_take (i := 9) (oi := _) (v := ?_) rfl (by kernel_rfl) (by kernel_rfl) (by kernel_rfl) (fun _ _ _ h => h) (Or.inl ⟨by rfl, ?_⟩) (by trivial) ?_
        rotate_left
        · intro w hSw
          go_simp
          try with_reducible rfl
        try simp only [Act.put, List.setIfInBounds_toArray, List.set_cons_zero, List.set_cons_succ]
        refine wpAnyH_take (i := 10) (oi := _) (v := ?_) rfl (by kernel_rfl) (by kernel_rfl) (by kernel_rfl) (fun _ _ _ h => h) (Or.inl ⟨by rfl, ?_⟩) (by trivial) ?_
        rotate_left
        · intro w hSw
          go_simp
          try with_reducible rfl
        try simp only [Act.put, List.setIfInBounds_toArray, List.set_cons_zero, List.set_cons_succ]
        refine wpAnyH_take (i := 11) (oi := _) (v := undef) rfl (by kernel_rfl) (by kernel_rfl) (by kernel_rfl) (fun _ _ _ h => h) (Or.inr ⟨by rfl, rfl⟩) (by trivial) ?_
        try simp only [Act.put, List.setIfInBounds_toArray, List.set_cons_zero, List.set_cons_succ]
        refine wpAnyH_take (i := 12) (oi := _) (v := undef) rfl (by kernel_rfl) (by kernel_rfl) (by kernel_rfl) (fun _ _ _ h => h) (Or.inr ⟨by rfl, rfl⟩) (by trivial) ?_
        try simp only [Act.put, List.setIfInBounds_toArray, List.set_cons_zero, List.set_cons_succ]
        refine wpAnyH_take (i := 13) (oi := _) (v := undef) rfl (by kernel_rfl) (by kernel_rfl) (by kernel_rfl) (fun _ _ _ h => h) (Or.inr ⟨by rfl, rfl⟩) (by trivial) ?_
        try simp only [Act.put, List.setIfInBounds_toArray, List.set_cons_zero, List.set_cons_succ]
        refine wpAnyH_take (i := 14) (oi := _) (v := ?_) rfl (by kernel_rfl) (by kernel_rfl) (by kernel_rfl) (fun _ _ _ h => h) (Or.inl ⟨by rfl, ?_⟩) (by trivial) ?_
        rotate_left
        · intro w hSw
          go_simp
          try with_reducible rfl
        try simp only [Act.put, List.setIfInBounds_toArray, List.set_cons_zero, List.set_cons_succ]
        refine wpAnyH_done (by kernel_rfl) ?_ _
        all_goals
          have hr3 : RdIs w3 a (l, b) := Hr2.out.fr (S := []) ((Fr.refl [] w2).drew.trans Hf3.out) (by simp)
          have Hr3 := Lib.hid hr3
          clear hr3
          go_wp2_with fail
          refine (fail_any a (l, b) _ Hr3.out).mono ?_
          rintro e' w4 ⟨rfl, h1, h2⟩
          have H1 := Lib.hid h1
          have H2 := Lib.hid h2
          clear h1 h2
          go_wp2
          go_ret
          rw [Hr.out]
          exact ⟨rfl, H1.out, ((Hf2.out.drew.trans Hf3.out).mono (by simp)).trans H2.out⟩
    · have hn : rnum e least (l, b) = (0, dead) := by
        unfold rnum
        simp only
        rw [Hnum.out.2 hno]
      have Hn := Lib.hid hn
      clear hno hn
      go_wp2_with fail
      go_quiet (fail)
      have hr3 : RdIs (w2.drewN nq) a (l, b) := Row.drewN Hr2.out nq
      have Hr3 := Lib.hid hr3
      clear hr3
      go_wp2_with fail
      refine (fail_any a (l, b) _ Hr3.out).mono ?_
      rintro e' w4 ⟨rfl, h1, h2⟩
      have H1 := Lib.hid h1
      have H2 := Lib.hid h2
      clear h1 h2
      go_wp2
      go_ret
      rw [Hn.out]
      exact ⟨rfl, H1.out, ((Hf2.out.drewN nq).mono (by simp)).trans H2.out⟩

end Go.Proofs.YthajdajhclpaaaaDoor
