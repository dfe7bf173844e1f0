/- The reference of layer 1: Back. (Printed by genback.py.) -/
import Derived.Test.YthajdajhclpaaaaDoorRefD
import Derived.Test.YthajdajhclpaaaaDoorRefL
import Derived.Test.YthajdajhclpaaaaDoorRefP
namespace Go.Proofs.YthajdajhclpaaaaDoor
open Go.RowKit Go.Shelf Wr

theorem wrap64_wr (x : Int) : wrap64 x = wr64 x := by unfold wrap64 wr64; rfl
theorem getb (l : List UInt8) (k : Nat) (c : UInt8) (h : l[k]? = some c) : ∀ hk : k < (⟨l.toArray⟩ : ByteArray).size, (⟨l.toArray⟩ : ByteArray)[k]'hk = c := by
  intro hk
  obtain ⟨hl, he⟩ := List.getElem?_eq_some_iff.1 h
  exact he
theorem ba_ne {a b : List UInt8} (h : ¬ a = b) : ((⟨a.toArray⟩ : ByteArray) = ⟨b.toArray⟩) = False := by
  apply eq_false
  intro he
  apply h
  have := congrArg (fun x : ByteArray => x.data.toList) he
  simpa using this
theorem ba_app (x y : List UInt8) : (⟨x.toArray⟩ : ByteArray) ++ ⟨y.toArray⟩ = ⟨(x ++ y).toArray⟩ := (mkb_app x y).symm
/-- What Back answers. -/
def BackSays (l : List UInt8) (w : World) (e : Ending) (w' : World) : Prop := Fr [] w w' ∧
    ((∃ v, IsNum l v ∧ e = .returned (.tuple #[.int .i64 v, .bool true])) ∨ ((∀ v, ¬ IsNum l v) ∧ ∃ v, e = .returned (.tuple #[.int .i64 v, .bool false])))

set_option maxRecDepth 100000 in
set_option maxHeartbeats 4000000 in
theorem rback_any (l : List UInt8) (hl : l.length ≤ 1000000) (w : World) : Calls Tryd.prog 91 #[.string ⟨l.toArray⟩] w (BackSays l w) := by
  obtain ⟨f, hf⟩ : ∃ f, f = frm l := ⟨_, rfl⟩
  have hs := size_l0 l
  have hch : ∀ v, IsNum l v → ∀ i c, l[i]? = some c → f ≤ i → 48 ≤ c.toNat ∧ c.toNat ≤ 57 ∧ i < 20 := fun v hv i c hi hfi => by
    obtain ⟨h1, h2⟩ := List.getElem?_eq_some_iff.1 hi
    have := num_char hv i (by omega) h1
    rw [h2] at this
    exact this
  have Hch := Lib.hid hch
  clear hch
  have hfc : (f = 1 ∧ l.head? = some 45) ∨ (f = 0 ∧ l = []) ∨ (f = 0 ∧ ∃ c t, l = c :: t ∧ c ≠ 45) := by
    rw [hf]
    unfold frm
    split
    · exact .inl ⟨rfl, by assumption⟩
    · rename_i hh
      refine .inr ?_
      cases l with
      | nil => exact .inl ⟨rfl, rfl⟩
      | cons c t => exact .inr ⟨rfl, c, t, rfl, fun h => hh (by rw [h]; rfl)⟩
  have Hbr := Lib.hid (bkv_range l)
  have hb0 := bkv_from l
  rw [← hf] at hb0
  have hbs : ∀ i c, l[i]? = some c → f ≤ i → bkv l (i + 1) = bkStep (bkv l i) c := fun i c hi hfi => by
    obtain ⟨h1, h2⟩ := List.getElem?_eq_some_iff.1 hi
    rw [bkv_succ l i (by omega) h1, h2]
  have hbk := bkn_ok l
  have hbn := bkn_no (l := l)
  have hbg := bkn_range l
  have hbd : bkn l = if f = 0 then wr64 (-(bkv l l.length)) else bkv l l.length := by rw [hf]; rfl
  have Hb0 := Lib.hid hb0
  have Hbs := Lib.hid hbs
  clear hb0 hbs hf
  rcases hfc with ⟨rfl, hh⟩ | ⟨rfl, hh⟩ | ⟨rfl, hh⟩
  · skip
    have hlen0 : (0 : Int) < (l.length : Int) := by
      cases l with
      | nil => cases hh
      | cons c t => simp only [List.length_cons]; omega
    have hlen0' : 0 < l.length := by omega
    have h00 := getb l 0 45 (by
      cases l with
      | nil => cases hh
      | cons c t => simpa using hh)
    have hle : 1 ≤ l.length := hlen0'
    clear hh
    have hbd2 : bkn l = bkv l l.length := by rw [hbd]; rw [if_neg (by decide)]
    clear hbd
    have Hle := Lib.hid hle
    clear hle
    go_enter Tryd.func91, Tryd.ntmps91
    rw [hbd2] at hbk hbn hbg
    have Hbk := Lib.hid hbk
    have Hbn := Lib.hid hbn
    have Hbg := Lib.hid hbg
    clear hbd2 hbk hbn hbg
    go_wp2
    go_loopg [5, 6] (l.length - 1) (fun gk v5 v6 wr => ∃ i : Nat, v6 = .int .i64 i ∧ v5 = .int .i64 (bkv l i) ∧ 1 ≤ i ∧ i ≤ l.length ∧ gk = l.length - i ∧ Fr [] w wr)
    case atStart => exact ⟨1, rfl, by rw [Hb0.out], Nat.le_refl _, Hle.out, rfl, Fr.refl _ _⟩
    case round =>
      obtain ⟨i, rfl, rfl, hi0, hi, rfl, hb⟩ := hrel
      have Hb := Lib.hid hb
      clear hb
      obtain ⟨n, hn⟩ : ∃ n, n = bkv l i := ⟨_, rfl⟩
      have hnr := Hbr.out i
      rw [← hn] at hnr
      obtain ⟨hn0, hn1⟩ := hnr
      by_cases hlt : i < l.length
      · obtain ⟨c, hci⟩ : ∃ c, l[i]? = some c := ⟨_, List.getElem?_eq_getElem hlt⟩
        have hgb := getb l i c hci
        have Hcx : Hid (∀ v, IsNum l v → 48 ≤ c.toNat ∧ c.toNat ≤ 57 ∧ i < 20) := fun v hv => Hch.out v hv i c hci hi0
        have hst := Hbs.out i c hci hi0
        rw [← hn] at hst
        have Hst := Lib.hid hst
        rw [← hn]
        have hc255 : c.toNat < 256 := c.toNat_lt
        clear hci hst hn
        by_cases hk : 48 ≤ c.toNat ∧ c.toNat ≤ 57 ∧ i ≤ 20
        · obtain ⟨k1, k2, k3⟩ := hk
          have k1' : (48 : Int) ≤ (c.toNat : Int) := by omega
          have k2' : (c.toNat : Int) ≤ 57 := by omega
          have k3' : (i : Int) ≤ 20 := by omega
          go_wp2
          go_roundg (l.length - (i + 1))
          case measure => omega
          case rel => exact ⟨i + 1, by go_num, by rw [Hst.out, bkStep, ← wrap64_wr, ← wrap64_wr], by omega, by omega, rfl, Hb.out⟩
        · have hno : ∀ v, ¬ IsNum l v := fun v hv => hk (by have := Hcx.out v hv; omega)
          have Hno := Lib.hid hno
          clear hno
          have hsplit : (c.toNat : Int) < 48 ∨ (48 ≤ (c.toNat : Int) ∧ 57 < (c.toNat : Int)) ∨ (48 ≤ (c.toNat : Int) ∧ (c.toNat : Int) ≤ 57 ∧ 20 < (i : Int)) := by omega
          clear hk
          rcases hsplit with k1 | ⟨k1, k2⟩ | ⟨k1, k2, k3⟩
          · go_wp2
            go_ret2
            exact ⟨Hb.out, .inr ⟨Hno.out, _, rfl⟩⟩
          · go_wp2
            go_ret2
            exact ⟨Hb.out, .inr ⟨Hno.out, _, rfl⟩⟩
          · go_wp2
            go_ret2
            exact ⟨Hb.out, .inr ⟨Hno.out, _, rfl⟩⟩
      · have hii : i = l.length := by omega
        subst hii
        rw [← hn]
        have hbk := Hbk.out
        have hbn := Hbn.out
        have hbg := Hbg.out
        rw [← hn] at hbk hbn hbg
        obtain ⟨m, hm⟩ : ∃ m, m = n := ⟨_, rfl⟩
        rw [← hm] at hbk hbn hbg
        have hx := xint_any m hbg
        have hil := itoa_len m hbg.1 hbg.2
        have hap := ba_app l [59]
        have he : encInt m = Lib.itoa m ++ [59] := rfl
        rw [← he] at hbk hbn
        obtain ⟨l9, hl9⟩ : ∃ l9, l9 = l ++ [59] := ⟨_, rfl⟩
        rw [← hl9] at hap hbk hbn
        rw [hm] at hx
        have Hx := Lib.hid hx
        have Hbk2 := Lib.hid hbk
        have Hbn2 := Lib.hid hbn
        have Hm := Lib.hid hm
        clear hbk hbn hbg hx he hl9 hm hil hn
        go_wp2_with fail
        refine (Hx.out _).mono ?_
        rintro e w2 ⟨rfl, hf2⟩
        rw [← Hm.out]
        have Hf2 := Lib.hid (Hb.out.trans hf2)
        clear hf2
        by_cases heq : encInt m = l9
        · rw [heq]
          have hnum := Hbk2.out.1 heq
          have Hnum := Lib.hid hnum
          clear hnum heq
          go_wp2
          go_ret2
          exact ⟨Hf2.out, .inl ⟨m, Hnum.out, rfl⟩⟩
        · have Hno := Lib.hid (Hbn2.out heq)
          have hne := ba_ne heq
          have hbe : (encInt m == l9) = false := beq_eq_false_iff_ne.2 heq
          clear heq
          go_wp2
          go_ret2
          exact ⟨Hf2.out, .inr ⟨Hno.out, _, rfl⟩⟩
  · skip
    have hle : 0 ≤ l.length := Nat.zero_le _
    have hlen0 : decide ((0 : Int) < (l.length : Int)) = false := by rw [hh]; rfl
    have hlen1 : decide (0 < l.length) = false := by rw [hh]; rfl
    clear hh
    have hbd2 : bkn l = wrap64 (-(bkv l l.length)) := by rw [hbd]; rw [if_pos rfl, wrap64_wr]
    clear hbd
    have Hle := Lib.hid hle
    clear hle
    go_enter Tryd.func91, Tryd.ntmps91
    rw [hbd2] at hbk hbn hbg
    have Hbk := Lib.hid hbk
    have Hbn := Lib.hid hbn
    have Hbg := Lib.hid hbg
    clear hbd2 hbk hbn hbg
    go_wp2
    go_loopg [5, 6] (l.length - 0) (fun gk v5 v6 wr => ∃ i : Nat, v6 = .int .i64 i ∧ v5 = .int .i64 (bkv l i) ∧ 0 ≤ i ∧ i ≤ l.length ∧ gk = l.length - i ∧ Fr [] w wr)
    case atStart => exact ⟨0, rfl, by rw [Hb0.out], Nat.le_refl _, Hle.out, rfl, Fr.refl _ _⟩
    case round =>
      obtain ⟨i, rfl, rfl, hi0, hi, rfl, hb⟩ := hrel
      have Hb := Lib.hid hb
      clear hb
      obtain ⟨n, hn⟩ : ∃ n, n = bkv l i := ⟨_, rfl⟩
      have hnr := Hbr.out i
      rw [← hn] at hnr
      obtain ⟨hn0, hn1⟩ := hnr
      by_cases hlt : i < l.length
      · obtain ⟨c, hci⟩ : ∃ c, l[i]? = some c := ⟨_, List.getElem?_eq_getElem hlt⟩
        have hgb := getb l i c hci
        have Hcx : Hid (∀ v, IsNum l v → 48 ≤ c.toNat ∧ c.toNat ≤ 57 ∧ i < 20) := fun v hv => Hch.out v hv i c hci hi0
        have hst := Hbs.out i c hci hi0
        rw [← hn] at hst
        have Hst := Lib.hid hst
        rw [← hn]
        have hc255 : c.toNat < 256 := c.toNat_lt
        clear hci hst hn
        by_cases hk : 48 ≤ c.toNat ∧ c.toNat ≤ 57 ∧ i ≤ 20
        · obtain ⟨k1, k2, k3⟩ := hk
          have k1' : (48 : Int) ≤ (c.toNat : Int) := by omega
          have k2' : (c.toNat : Int) ≤ 57 := by omega
          have k3' : (i : Int) ≤ 20 := by omega
          go_wp2
          go_roundg (l.length - (i + 1))
          case measure => omega
          case rel => exact ⟨i + 1, by go_num, by rw [Hst.out, bkStep, ← wrap64_wr, ← wrap64_wr], by omega, by omega, rfl, Hb.out⟩
        · have hno : ∀ v, ¬ IsNum l v := fun v hv => hk (by have := Hcx.out v hv; omega)
          have Hno := Lib.hid hno
          clear hno
          have hsplit : (c.toNat : Int) < 48 ∨ (48 ≤ (c.toNat : Int) ∧ 57 < (c.toNat : Int)) ∨ (48 ≤ (c.toNat : Int) ∧ (c.toNat : Int) ≤ 57 ∧ 20 < (i : Int)) := by omega
          clear hk
          rcases hsplit with k1 | ⟨k1, k2⟩ | ⟨k1, k2, k3⟩
          · go_wp2
            go_ret2
            exact ⟨Hb.out, .inr ⟨Hno.out, _, rfl⟩⟩
          · go_wp2
            go_ret2
            exact ⟨Hb.out, .inr ⟨Hno.out, _, rfl⟩⟩
          · go_wp2
            go_ret2
            exact ⟨Hb.out, .inr ⟨Hno.out, _, rfl⟩⟩
      · have hii : i = l.length := by omega
        subst hii
        rw [← hn]
        have hbk := Hbk.out
        have hbn := Hbn.out
        have hbg := Hbg.out
        rw [← hn] at hbk hbn hbg
        obtain ⟨m, hm⟩ : ∃ m, m = wrap64 (-n) := ⟨_, rfl⟩
        rw [← hm] at hbk hbn hbg
        have hx := xint_any m hbg
        have hil := itoa_len m hbg.1 hbg.2
        have hap := ba_app l [59]
        have he : encInt m = Lib.itoa m ++ [59] := rfl
        rw [← he] at hbk hbn
        obtain ⟨l9, hl9⟩ : ∃ l9, l9 = l ++ [59] := ⟨_, rfl⟩
        rw [← hl9] at hap hbk hbn
        rw [hm] at hx
        have Hx := Lib.hid hx
        have Hbk2 := Lib.hid hbk
        have Hbn2 := Lib.hid hbn
        have Hm := Lib.hid hm
        clear hbk hbn hbg hx he hl9 hm hil hn
        go_wp2_with fail
        refine (Hx.out _).mono ?_
        rintro e w2 ⟨rfl, hf2⟩
        rw [← Hm.out]
        have Hf2 := Lib.hid (Hb.out.trans hf2)
        clear hf2
        by_cases heq : encInt m = l9
        · rw [heq]
          have hnum := Hbk2.out.1 heq
          have Hnum := Lib.hid hnum
          clear hnum heq
          go_wp2
          go_ret2
          exact ⟨Hf2.out, .inl ⟨m, Hnum.out, rfl⟩⟩
        · have Hno := Lib.hid (Hbn2.out heq)
          have hne := ba_ne heq
          have hbe : (encInt m == l9) = false := beq_eq_false_iff_ne.2 heq
          clear heq
          go_wp2
          go_ret2
          exact ⟨Hf2.out, .inr ⟨Hno.out, _, rfl⟩⟩
  · skip
    obtain ⟨c0, t0, hl0, hc0⟩ := hh
    have hlen0 : (0 : Int) < (l.length : Int) := by rw [hl0]; simp only [List.length_cons]; omega
    have hlen0' : 0 < l.length := by omega
    have h00 := getb l 0 c0 (by rw [hl0]; rfl)
    have hc1 : ((c0.toNat : Int) == 45) = false := by
      rw [beq_eq_false_iff_ne]
      intro h1
      apply hc0
      apply UInt8.toNat_inj.1
      have : (45 : UInt8).toNat = 45 := rfl
      omega
    have hle : 0 ≤ l.length := Nat.zero_le _
    clear hl0 hc0
    have hbd2 : bkn l = wrap64 (-(bkv l l.length)) := by rw [hbd]; rw [if_pos rfl, wrap64_wr]
    clear hbd
    have Hle := Lib.hid hle
    clear hle
    go_enter Tryd.func91, Tryd.ntmps91
    rw [hbd2] at hbk hbn hbg
    have Hbk := Lib.hid hbk
    have Hbn := Lib.hid hbn
    have Hbg := Lib.hid hbg
    clear hbd2 hbk hbn hbg
    go_wp2
    go_loopg [5, 6] (l.length - 0) (fun gk v5 v6 wr => ∃ i : Nat, v6 = .int .i64 i ∧ v5 = .int .i64 (bkv l i) ∧ 0 ≤ i ∧ i ≤ l.length ∧ gk = l.length - i ∧ Fr [] w wr)
    case atStart => exact ⟨0, rfl, by rw [Hb0.out], Nat.le_refl _, Hle.out, rfl, Fr.refl _ _⟩
    case round =>
      obtain ⟨i, rfl, rfl, hi0, hi, rfl, hb⟩ := hrel
      have Hb := Lib.hid hb
      clear hb
      obtain ⟨n, hn⟩ : ∃ n, n = bkv l i := ⟨_, rfl⟩
      have hnr := Hbr.out i
      rw [← hn] at hnr
      obtain ⟨hn0, hn1⟩ := hnr
      by_cases hlt : i < l.length
      · obtain ⟨c, hci⟩ : ∃ c, l[i]? = some c := ⟨_, List.getElem?_eq_getElem hlt⟩
        have hgb := getb l i c hci
        have Hcx : Hid (∀ v, IsNum l v → 48 ≤ c.toNat ∧ c.toNat ≤ 57 ∧ i < 20) := fun v hv => Hch.out v hv i c hci hi0
        have hst := Hbs.out i c hci hi0
        rw [← hn] at hst
        have Hst := Lib.hid hst
        rw [← hn]
        have hc255 : c.toNat < 256 := c.toNat_lt
        clear hci hst hn
        by_cases hk : 48 ≤ c.toNat ∧ c.toNat ≤ 57 ∧ i ≤ 20
        · obtain ⟨k1, k2, k3⟩ := hk
          have k1' : (48 : Int) ≤ (c.toNat : Int) := by omega
          have k2' : (c.toNat : Int) ≤ 57 := by omega
          have k3' : (i : Int) ≤ 20 := by omega
          go_wp2
          go_roundg (l.length - (i + 1))
          case measure => omega
          case rel => exact ⟨i + 1, by go_num, by rw [Hst.out, bkStep, ← wrap64_wr, ← wrap64_wr], by omega, by omega, rfl, Hb.out⟩
        · have hno : ∀ v, ¬ IsNum l v := fun v hv => hk (by have := Hcx.out v hv; omega)
          have Hno := Lib.hid hno
          clear hno
          have hsplit : (c.toNat : Int) < 48 ∨ (48 ≤ (c.toNat : Int) ∧ 57 < (c.toNat : Int)) ∨ (48 ≤ (c.toNat : Int) ∧ (c.toNat : Int) ≤ 57 ∧ 20 < (i : Int)) := by omega
          clear hk
          rcases hsplit with k1 | ⟨k1, k2⟩ | ⟨k1, k2, k3⟩
          · go_wp2
            go_ret2
            exact ⟨Hb.out, .inr ⟨Hno.out, _, rfl⟩⟩
          · go_wp2
            go_ret2
            exact ⟨Hb.out, .inr ⟨Hno.out, _, rfl⟩⟩
          · go_wp2
            go_ret2
            exact ⟨Hb.out, .inr ⟨Hno.out, _, rfl⟩⟩
      · have hii : i = l.length := by omega
        subst hii
        rw [← hn]
        have hbk := Hbk.out
        have hbn := Hbn.out
        have hbg := Hbg.out
        rw [← hn] at hbk hbn hbg
        obtain ⟨m, hm⟩ : ∃ m, m = wrap64 (-n) := ⟨_, rfl⟩
        rw [← hm] at hbk hbn hbg
        have hx := xint_any m hbg
        have hil := itoa_len m hbg.1 hbg.2
        have hap := ba_app l [59]
        have he : encInt m = Lib.itoa m ++ [59] := rfl
        rw [← he] at hbk hbn
        obtain ⟨l9, hl9⟩ : ∃ l9, l9 = l ++ [59] := ⟨_, rfl⟩
        rw [← hl9] at hap hbk hbn
        rw [hm] at hx
        have Hx := Lib.hid hx
        have Hbk2 := Lib.hid hbk
        have Hbn2 := Lib.hid hbn
        have Hm := Lib.hid hm
        clear hbk hbn hbg hx he hl9 hm hil hn
        go_wp2_with fail
        refine (Hx.out _).mono ?_
        rintro e w2 ⟨rfl, hf2⟩
        rw [← Hm.out]
        have Hf2 := Lib.hid (Hb.out.trans hf2)
        clear hf2
        by_cases heq : encInt m = l9
        · rw [heq]
          have hnum := Hbk2.out.1 heq
          have Hnum := Lib.hid hnum
          clear hnum heq
          go_wp2
          go_ret2
          exact ⟨Hf2.out, .inl ⟨m, Hnum.out, rfl⟩⟩
        · have Hno := Lib.hid (Hbn2.out heq)
          have hne := ba_ne heq
          have hbe : (encInt m == l9) = false := beq_eq_false_iff_ne.2 heq
          clear heq
          go_wp2
          go_ret2
          exact ⟨Hf2.out, .inr ⟨Hno.out, _, rfl⟩⟩

end Go.Proofs.YthajdajhclpaaaaDoor