/- The walks of the laws of layer 2. -/
import Derived.Test.YtncnfjdinhgpfaaFrS
import Derived.Test.YtncnfjdinhgpfaaFrP
import Derived.Test.YtncnfjdinhgpfaaRow
import Derived.Laws.Bits64
namespace Go.Proofs.Ytncnfjdinhgpfaa
open Go.RowKit
set_option linter.unusedVariables false
set_option linter.unusedSimpArgs false
theorem RB.of_own {w : World} {base : Nat} {A : Option Addr} {n c : Nat} {bs : List UInt8} (h : OB w base (.slice A n c) bs) : RB w A bs := Lies.of_own h
theorem OB.form {w : World} {base : Nat} {v : Value} {bs : List UInt8} (h : OB w base v bs) : ∃ A c, v = .slice A bs.length c ∧ bs.length ≤ c ∧ (A = none → c = 0) := by
  rcases h.2 with ⟨rfl, h0⟩ | ⟨g, cap, cur, rfl, _, _, h, _⟩
  · exact ⟨_, _, by rw [h0], by omega, fun _ => rfl⟩
  · exact ⟨_, _, rfl, h, fun h => by cases h⟩
theorem OB.below {w w' : World} {base : Nat} {v : Value} {bs : List UInt8} (h : OB w base v bs) (hb : Below w.heap.size w w') : OB w' base v bs := by
  refine World.ownsRow.kept h (row := none) ⟨hb.os, hb.tape, hb.output, hb.size, fun k hk _ => hb.block k hk⟩ ?_
  cases v.ownBlock <;> simp
set_option maxHeartbeats 800000 in
theorem frameOpens_walk (A : Option Addr) (c : Nat) (bs : List UInt8) (w : World) (hr : RB w A bs) (hA : A = none → c = 0) (hlc : bs.length ≤ c) (hm : bs.length ≤ 140737488351232) :
    Calls Try.prog 3 #[.slice A bs.length c] w fun e w' => e = .returned (.bool true) ∧ Below w.heap.size w w' := by
  go_enter Try.func3, Try.ntmps3
  go_wp2_with (go_at_call 8; refine (open_any _ _ _ _ (by omega) hlc hA hr).mono ?_; rintro e w1 ⟨v1, rfl, ho1, hb1⟩)
  refine (ropen_any _ _ _ _ (by omega) hlc hA (hr.below hb1)).mono ?_
  rintro e w2 ⟨v2, rfl, ho2, hb2⟩
  obtain ⟨A1, c1, rfl, _, _⟩ := ho1.form
  obtain ⟨A2, c2, rfl, _, _⟩ := ho2.form
  have r1 := RB.of_own (ho1.below hb2)
  have r2 := RB.of_own ho2
  have hb12 := hb1.trans (hb2.mono hb1.size)
  clear ho1 ho2 hb1 hb2
  have heq : ((opened bs).1 == (opened bs).1) = true := by simp
  go_wp2_with (first | (go_at_call 10; refine (equal_any _ _ _ _ _ _ _ r1 r2).mono ?_; rintro e w3 ⟨rfl, rfl⟩) | (go_at_call 11; refine (awake_any _).mono ?_; rintro e w4 ⟨rfl, hb4⟩))
  go_ret
  exact ⟨rfl, hb12.trans (hb4.mono hb12.size)⟩
set_option maxHeartbeats 800000 in
theorem frameBack_walk (A : Option Addr) (c : Nat) (bs : List UInt8) (w : World) (hr : RB w A bs) (hA : A = none → c = 0) (hlc : bs.length ≤ c) (hm : bs.length ≤ 140737488351232) :
    Calls Try.prog 7 #[.slice A bs.length c] w fun e w' => e = .returned (.bool true) ∧ Below w.heap.size w w' := by
  go_enter Try.func7, Try.ntmps7
  go_wp2_with fail
  refine (seal_any _ _ _ _ hm hA hr).mono ?_
  rintro e w1 ⟨v1, rfl, ho1, hb1⟩
  obtain ⟨A1, c1, rfl, hl1, hA1⟩ := ho1.form
  have r1 := RB.of_own ho1
  have HO := Lib.hid (opened_sealed bs)
  have hsl : (sealed bs).length ≤ 140737488351240 := by rw [sealed_length]; omega
  go_wp2_with fail
  refine (open_any _ _ _ _ (by omega) hl1 hA1 r1).mono ?_
  rintro e w2 ⟨v2, rfl, ho2, hb2⟩
  rw [HO.out] at ho2 ⊢
  obtain ⟨A2, c2, rfl, hl2, hA2⟩ := ho2.form
  have r2 := RB.of_own ho2
  have hb12 := hb1.trans (hb2.mono hb1.size)
  have rb := hr.below hb12
  clear ho1 ho2 hb1 hb2
  have heq : (bs == bs) = true := by simp
  go_wp2_with (first | (go_at_call 10; refine (equal_any _ _ _ _ _ _ _ r2 rb).mono ?_; rintro e w3 ⟨rfl, rfl⟩) | (go_at_call 11; refine (awake_any _).mono ?_; rintro e w4 ⟨rfl, hb4⟩))
  go_ret
  exact ⟨rfl, hb12.trans (hb4.mono hb12.size)⟩
set_option maxHeartbeats 800000 in
theorem frameSums_walk (A : Option Addr) (c : Nat) (bs : List UInt8) (w : World) (hr : RB w A bs) (hA : A = none → c = 0) (hlc : bs.length ≤ c) (hm : bs.length ≤ 140737488351232) :
    Calls Try.prog 4 #[.slice A bs.length c] w fun e w' => e = .returned (.bool true) ∧ Below w.heap.size w w' := by
  have heq : (bs == bs) = true := by simp
  have heq2 : (sealed bs == sealed bs) = true := by simp
  go_enter Try.func4, Try.ntmps4
  go_wp2_with fail
  refine (clone_any _ _ _ _ hm hA hr).mono ?_
  rintro e w1 ⟨v1, rfl, ho1, hb1⟩
  obtain ⟨A1, c1, rfl, hl1, hA1⟩ := ho1.form
  have ra1 := hr.below hb1
  have rc1 := RB.of_own ho1
  go_wp2_with fail
  refine (sum_any _ _ _ _ (by omega) ra1).mono ?_
  rintro e w2 ⟨rfl, hb2⟩
  have rc2 := rc1.below hb2
  have hb12 := hb1.trans (hb2.mono hb1.size)
  go_wp2_with fail
  refine (rsum_any _ _ _ _ (by omega) rc2).mono ?_
  rintro e w3 ⟨rfl, rfl⟩
  have ra2 := hr.below hb12
  go_wp2_with fail
  refine (seal_any _ _ _ _ hm hA ra2).mono ?_
  rintro e w4 ⟨v4, rfl, ho4, hb4⟩
  obtain ⟨A4, c4, rfl, hl4, hA4⟩ := ho4.form
  have hb14 := hb12.trans (hb4.mono hb12.size)
  have rc4 := rc2.below hb4
  go_wp2_with fail
  refine (rseal_any _ _ _ _ hm hA1 rc4).mono ?_
  rintro e w5 ⟨v5, rfl, ho5, hb5⟩
  obtain ⟨A5, c5, rfl, hl5, hA5⟩ := ho5.form
  have hb15 := hb14.trans (hb5.mono hb14.size)
  have r4 := (RB.of_own ho4).below hb5
  have r5 := RB.of_own ho5
  have ra5 := hr.below hb15
  have rc5 := rc4.below hb5
  go_wp2_with fail
  refine (equal_any _ _ _ _ _ _ _ r4 r5).mono ?_
  rintro e w6 ⟨rfl, rfl⟩
  go_wp2_with fail
  refine (equal_any _ _ _ _ _ _ _ ra5 rc5).mono ?_
  rintro e w6 ⟨rfl, rfl⟩
  go_wp2_with fail
  refine (awake_any _).mono ?_
  rintro e w7 ⟨rfl, hb7⟩
  go_wp2
  go_ret
  exact ⟨rfl, hb15.trans (hb7.mono hb15.size)⟩
/-- Where in so many bytes a number leads, taken modulo how many they are. -/
theorem index_mod (a : Int) (n : Nat) (h : 0 < n) (hn : n ≤ 9223372036854775807) : ∃ i : Nat, i < n ∧ wrap64 ((IntKind.u64.wrap a).tmod (n : Int)) = (i : Int) := by
  rw [IntKind.wrap_u64, tmod_of_emod]
  have h0 : 0 ≤ a % 18446744073709551616 := Int.emod_nonneg _ (by decide)
  have h1 := Int.emod_nonneg (a % 18446744073709551616) (show (n : Int) ≠ 0 by omega)
  have h2 := Int.emod_lt_of_pos (a % 18446744073709551616) (show (0 : Int) < n by omega)
  refine ⟨(a % 18446744073709551616 % (n : Int)).toNat, by omega, ?_⟩
  unfold wrap64
  omega
theorem vb_xor (b : UInt8) (x : Int) (h0 : 0 ≤ x) (h1 : x < 256) : Value.int .u8 (Go.bits .xor .u8 (b.toNat : Int) x) = vb (b ^^^ UInt8.ofNat x.toNat) := by
  have hx : x = ((x.toNat : Nat) : Int) := by omega
  rw [hx, u8_xor_nat _ _ b.toNat_lt (by omega)]
  simp only [vb, UInt8.toNat_xor, UInt8.toNat_ofNat', Int.toNat_natCast]
  rw [Nat.mod_eq_of_lt (show x.toNat < 2 ^ 8 by omega)]
theorem OB.set {w : World} {base g n c : Nat} {bs : List UInt8} (h : OB w base (.slice (some ⟨g, 0, none⟩) n c) bs) (i : Nat) (y : UInt8) (hn : n = bs.length) : OB (w.setCell ⟨g, i, none⟩ (vb y)) base (.slice (some ⟨g, 0, none⟩) n c) (bs.set i y) := by
  subst hn
  have := (World.ownsRow.stored h i (vb y)).1
  unfold OB
  rw [List.length_set, List.map_set]
  exact this
set_option maxHeartbeats 800000 in
theorem frameTurned_walk (A : Option Addr) (c : Nat) (bs : List UInt8) (at_ : Int) (x : Int) (w : World) (hr : RB w A bs) (hA : A = none → c = 0) (hlc : bs.length ≤ c) (hm : bs.length ≤ 140737488351232)
    (hat : (Lit.int .i64 at_).wf = true) (hx : (Lit.int .u8 x).wf = true) :
    Calls Try.prog 5 #[.slice A bs.length c, .int .i64 at_, .int .u8 x] w fun e w' => e = .returned (.bool true) ∧ Below w.heap.size w w' := by
  have h1 := wf_i64 hat
  have h2 := wf_u8 hx
  clear hat hx
  go_enter Try.func5, Try.ntmps5
  go_wp2_with fail
  refine (seal_any _ _ _ _ hm hA hr).mono ?_
  rintro e w1 ⟨v1, rfl, ho1, hb1⟩
  obtain ⟨A1, c1, rfl, hl1, hA1⟩ := ho1.form
  by_cases hx0 : x = 0
  · subst hx0
    have hls : 0 < (sealed bs).length := by rw [sealed_length]; omega
    go_wp2_with fail
    refine (awake_any _).mono ?_
    rintro e w7 ⟨rfl, hb7⟩
    go_wp2
    go_ret
    exact ⟨rfl, hb1.trans (hb7.mono hb1.size)⟩
  · have hx1 : 1 ≤ x := by omega
    have hls : 4 ≤ (sealed bs).length := by rw [sealed_length]; omega
    have hlu : (sealed bs).length ≤ 140737488351240 := by rw [sealed_length]; omega
    have q1 : (x == 0) = false := beq_eq_false_iff_ne.mpr hx0
    have q2 : (((sealed bs).length : Int) == 0) = false := beq_eq_false_iff_ne.mpr (by omega)
    obtain ⟨i, hi, hw⟩ := index_mod at_ (sealed bs).length (by omega) (by omega)
    obtain ⟨a, rfl, hc⟩ := (RB.of_own ho1).at hi
    obtain ⟨g, rfl, hgw⟩ : ∃ g, a = ⟨g, 0, none⟩ ∧ w.heap.size ≤ g := by
      rcases ho1.2 with ⟨h, _⟩ | ⟨g, cap, cur, h, hg, _⟩
      · cases h
      · cases h; exact ⟨g, rfl, hg⟩
    rw [Addr.add_lit, Nat.zero_add] at hc
    have hf := World.ownsRow.frozenAt ho1 i
    have HX := Lib.hid (vb_xor (sealed bs)[i] x h2.1 h2.2)
    have HO := Lib.hid ho1
    clear ho1
    have hne : UInt8.ofNat x.toNat ≠ 0 := by
      intro h
      have := congrArg UInt8.toNat h
      rw [UInt8.toNat_ofNat'] at this
      simp at this
      omega
    have HT := Lib.hid (opened_turned bs i hi _ hne)
    clear hne
    go_wp2_with fail
    rw [HX.out]
    have ho2 := HO.out.set i ((sealed bs)[i] ^^^ UInt8.ofNat x.toNat) rfl
    have hb2 := hb1.setCell (p := ⟨g, i, none⟩) hgw (vb ((sealed bs)[i] ^^^ UInt8.ofNat x.toNat))
    have hcall := open_any (some ⟨g, 0, none⟩) c1 ((sealed bs).set i ((sealed bs)[i] ^^^ UInt8.ofNat x.toNat)) (w1.setCell ⟨g, i, none⟩ (vb ((sealed bs)[i] ^^^ UInt8.ofNat x.toNat))) (by rw [List.length_set]; omega) (by rw [List.length_set]; exact hl1) hA1 (RB.of_own ho2)
    rw [List.length_set, HT.out] at hcall
    refine hcall.mono ?_
    rintro e w2 ⟨v2, rfl, ho3, hb3⟩
    obtain ⟨A3, c3, rfl, hl3, hA3⟩ := ho3.form
    have hb4 := hb2.trans (hb3.mono hb2.size)
    clear hcall ho2 ho3 hb2 hb3 hc hf hw
    go_wp2_with fail
    refine (awake_any _).mono ?_
    rintro e w7 ⟨rfl, hb7⟩
    go_wp2
    go_ret
    exact ⟨rfl, hb4.trans (hb7.mono hb4.size)⟩
theorem turn_of (x b : Int) (h0 : 1 ≤ x) (h1 : x < 256) (hb0 : 0 ≤ b) : ∃ T : Nat, 1 ≤ T ∧ T < 65536 ∧ IntKind.u16.wrap (x * 2 ^ (b % 9).toNat) = (T : Int) := by
  have hk : (b % 9).toNat ≤ 8 := by omega
  have h2 : (2 : Nat) ^ (b % 9).toNat ≤ 2 ^ 8 := Nat.pow_le_pow_right (by decide) hk
  have h3 : 1 ≤ (2 : Nat) ^ (b % 9).toNat := Nat.one_le_two_pow
  have h4 : x.toNat * 2 ^ (b % 9).toNat ≤ 255 * 2 ^ 8 := Nat.mul_le_mul (by omega) h2
  have h5 : 1 * 1 ≤ x.toNat * 2 ^ (b % 9).toNat := Nat.mul_le_mul (by omega) h3
  refine ⟨x.toNat * 2 ^ (b % 9).toNat, by omega, by omega, ?_⟩
  rw [IntKind.wrap_u16]
  have e : x * 2 ^ (b % 9).toNat = ((x.toNat * 2 ^ (b % 9).toNat : Nat) : Int) := by
    rw [Int.natCast_mul, Int.natCast_pow, Int.toNat_of_nonneg (by omega)]
    rfl
  rw [e]
  omega
set_option maxHeartbeats 1600000 in
theorem frameSmear_walk (A : Option Addr) (c : Nat) (bs : List UInt8) (at_ : Int) (x : Int) (by_ : Int) (w : World) (hr : RB w A bs) (hA : A = none → c = 0) (hlc : bs.length ≤ c) (hm : bs.length ≤ 140737488351232)
    (hat : (Lit.int .i64 at_).wf = true) (hx : (Lit.int .u8 x).wf = true) (hby : (Lit.int .u8 by_).wf = true) :
    Calls Try.prog 6 #[.slice A bs.length c, .int .i64 at_, .int .u8 x, .int .u8 by_] w fun e w' => e = .returned (.bool true) ∧ Below w.heap.size w w' := by
  have h1 := wf_i64 hat
  have h2 := wf_u8 hx
  have h3 := wf_u8 hby
  clear hat hx hby
  go_enter Try.func6, Try.ntmps6
  go_wp2_with fail
  refine (seal_any _ _ _ _ hm hA hr).mono ?_
  rintro e w1 ⟨v1, rfl, ho1, hb1⟩
  obtain ⟨A1, c1, rfl, hl1, hA1⟩ := ho1.form
  by_cases hx0 : x = 0
  · subst hx0
    have hls : 1 < (sealed bs).length := by rw [sealed_length]; omega
    go_wp2_with fail
    refine (awake_any _).mono ?_
    rintro e w7 ⟨rfl, hb7⟩
    go_wp2
    go_ret
    exact ⟨rfl, hb1.trans (hb7.mono hb1.size)⟩
  · have hx1 : 1 ≤ x := by omega
    have hls : 4 ≤ (sealed bs).length := by rw [sealed_length]; omega
    have hlu : (sealed bs).length ≤ 140737488351240 := by rw [sealed_length]; omega
    have q1 : (x == 0) = false := beq_eq_false_iff_ne.mpr hx0
    have q2 : decide (((sealed bs).length : Int) < 2) = false := decide_eq_false (by omega)
    obtain ⟨i, hi, hw⟩ := index_mod at_ ((sealed bs).length - 1) (by omega) (by omega)
    rw [show (((sealed bs).length - 1 : Nat) : Int) = ((sealed bs).length : Int) - 1 by omega] at hw
    by_cases h3 : i = 3
    · have q3 : ((i : Int) == 3) = true := by rw [h3]; rfl
      clear h3
      go_wp2_with fail
      refine (awake_any _).mono ?_
      rintro e w7 ⟨rfl, hb7⟩
      go_wp2
      go_ret
      exact ⟨rfl, hb1.trans (hb7.mono hb1.size)⟩
    · have q3 : ((i : Int) == 3) = false := beq_eq_false_iff_ne.mpr (by omega)
      have H3 := Lib.hid h3
      clear h3
      obtain ⟨T, hT1, hT2, hT⟩ := turn_of x by_ hx1 h2.2 h3.1
      obtain ⟨a, rfl, hc⟩ := (RB.of_own ho1).at (k := i) (by omega)
      obtain ⟨g, rfl, hgw⟩ : ∃ g, a = ⟨g, 0, none⟩ ∧ w.heap.size ≤ g := by
        rcases ho1.2 with ⟨h, _⟩ | ⟨g, cap, cur, h, hg, _⟩
        · cases h
        · cases h; exact ⟨g, rfl, hg⟩
      obtain ⟨_, e, hd⟩ := (RB.of_own ho1).at (k := i + 1) (by omega)
      cases e
      rw [Addr.add_lit, Nat.zero_add] at hc hd
      have hf := World.ownsRow.frozenAt ho1 i
      have hf2 := World.ownsRow.frozenAt ho1 (i + 1)
      have hi1 : i < (sealed bs).length := by omega
      have hi2 : i + 1 < (sealed bs).length := by omega
      have HX := Lib.hid (vb_xor (sealed bs)[i] ((T : Int) % 256) (by omega) (by omega))
      have HY := Lib.hid (vb_xor (sealed bs)[i + 1] ((T : Int) / 256) (by omega) (by omega))
      have HO := Lib.hid ho1
      have hne : ¬ (UInt8.ofNat ((T : Int) % 256).toNat = 0 ∧ UInt8.ofNat ((T : Int) / 256).toNat = 0) := by
        intro h
        have e1 := congrArg UInt8.toNat h.1
        have e2 := congrArg UInt8.toNat h.2
        rw [UInt8.toNat_ofNat'] at e1 e2
        simp at e1 e2
        omega
      have HT := Lib.hid (opened_smear bs i hi2 H3.out _ _ hne)
      clear ho1 hne
      go_wp2_with fail
      rw [HX.out, HY.out]
      have ho2 := (HO.out.set i ((sealed bs)[i] ^^^ UInt8.ofNat ((T : Int) % 256).toNat) rfl).set (i + 1) ((sealed bs)[i + 1] ^^^ UInt8.ofNat ((T : Int) / 256).toNat) (by rw [List.length_set])
      have hb2 := (hb1.setCell (p := ⟨g, i, none⟩) hgw (vb ((sealed bs)[i] ^^^ UInt8.ofNat ((T : Int) % 256).toNat))).setCell (p := ⟨g, i + 1, none⟩) hgw (vb ((sealed bs)[i + 1] ^^^ UInt8.ofNat ((T : Int) / 256).toNat))
      have hcall := open_any (some ⟨g, 0, none⟩) c1 (((sealed bs).set i ((sealed bs)[i] ^^^ UInt8.ofNat ((T : Int) % 256).toNat)).set (i + 1) ((sealed bs)[i + 1] ^^^ UInt8.ofNat ((T : Int) / 256).toNat)) _ (by rw [List.length_set, List.length_set]; omega) (by rw [List.length_set, List.length_set]; exact hl1) hA1 (RB.of_own ho2)
      rw [List.length_set, List.length_set, HT.out] at hcall
      refine hcall.mono ?_
      rintro e w2 ⟨v2, rfl, ho3, hb3⟩
      obtain ⟨A3, c3, rfl, hl3, hA3⟩ := ho3.form
      have hb4 := hb2.trans (hb3.mono hb2.size)
      clear hcall ho2 ho3 hb2 hb3 hc hd hf hf2
      go_wp2_with fail
      refine (awake_any _).mono ?_
      rintro e w7 ⟨rfl, hb7⟩
      go_wp2
      go_ret
      exact ⟨rfl, hb4.trans (hb7.mono hb4.size)⟩
end Go.Proofs.Ytncnfjdinhgpfaa
