/- The reader: what its calls do where what is asked for is there. -/
import Derived.Test.YtjfpanamkkdebaaCoN
import Derived.Lib.BufferWrite
import Derived.Lib.BufferOwn
import Derived.BigRegion
import Derived.BigQuiet
import Derived.Deep.QuietTactic
namespace Go.Proofs.Ytjfpanamkkdebaa
open Go.RowKit
set_option linter.unusedVariables false
set_option linter.unusedSimpArgs false
theorem CutAt.block {A A' : Option Addr} {l m size g : Nat} (h : CutAt A A' l m size) (hA : ∀ a, A = some a → a.block < g) : ∀ a, A' = some a → a.block < g := by
  intro a e
  unfold CutAt at h
  split at h
  · exact hA a (by rw [← h]; exact e)
  · subst e
    cases A with
    | none => cases h
    | some b =>
      simp only [Option.map_some, Option.some.injEq] at h
      subst h
      have := hA b rfl
      unfold Addr.add
      split <;> exact this
/-- A reader that lies in block g, without an error, whose bytes left are these. -/
structure RdAt (w : World) (g : Nat) (A : Option Addr) (c : Nat) (bs : List UInt8) : Prop where
  cells : w.heap[g]? = some (.cells #[.slice A bs.length c, .int .i64 0, .bool true] 118 (0, 0))
  bytes : RB w A bs
  cap0 : A = none → c = 0
  cap : bs.length ≤ c
  block : ∀ a, A = some a → a.block < g
def RdOk (w : World) (g : Nat) (bs : List UInt8) : Prop := ∃ A c, RdAt w g A c bs
theorem RdAt.rest {w : World} {g c : Nat} {A : Option Addr} {bs : List UInt8} (h : RdAt w g A c bs) : w.cell? ⟨g, 0, none⟩ = some (.slice A bs.length c) := by simp [World.cell?, h.cells]
theorem RdAt.err {w : World} {g c : Nat} {A : Option Addr} {bs : List UInt8} (h : RdAt w g A c bs) : w.cell? ⟨g, 1, none⟩ = some (.int .i64 0) := by simp [World.cell?, h.cells]
theorem RdAt.made {w : World} {g c : Nat} {A : Option Addr} {bs : List UInt8} (h : RdAt w g A c bs) : w.cell? ⟨g, 2, none⟩ = some (.bool true) := by simp [World.cell?, h.cells]
theorem RdAt.free {w : World} {g c : Nat} {A : Option Addr} {bs : List UInt8} (h : RdAt w g A c bs) (i : Nat) : w.frozen? ⟨g, i, none⟩ = false := by simp [World.frozen?, h.cells]
theorem RdAt.lt {w : World} {g c : Nat} {A : Option Addr} {bs : List UInt8} (h : RdAt w g A c bs) : g < w.heap.size := World.block_lt_of_cell? w ⟨g, 0, none⟩ h.rest
theorem RdAt.put {w : World} {g c c' : Nat} {A A' : Option Addr} {bs cs : List UInt8} (h : RdAt w g A c bs) (hb : RB w A' cs) (h0 : A' = none → c' = 0) (hc : cs.length ≤ c') (hg : ∀ a, A' = some a → a.block < g) : RdAt (w.setCell ⟨g, 0, none⟩ (.slice A' cs.length c')) g A' c' cs :=
  ⟨by rw [heap_setCell_same w g 0 _ _ _ h.cells]; rfl, Lies.grown hb (Lib.grownBy_setCell w g 0 _) (fun a e e2 => Nat.ne_of_lt (hg a e) (by injection e2)), h0, hc, hg⟩
theorem RdOk.alike {w w' : World} {g : Nat} {bs : List UInt8} (h : RdOk w g bs) (hb : Below w.heap.size w w') : RdOk w' g bs := by
  obtain ⟨A, c, h⟩ := h
  exact ⟨A, c, by rw [hb.block g h.lt]; exact h.cells, h.bytes.below hb, h.cap0, h.cap, h.block⟩
theorem RdOk.heap {w w' : World} {g : Nat} {bs : List UInt8} (h : RdOk w g bs) (e : w'.heap = w.heap) : RdOk w' g bs := by
  obtain ⟨A, c, h1, h2, h3, h4, h5⟩ := h
  refine ⟨A, c, by rw [e]; exact h1, fun k v hk => ?_, h3, h4, h5⟩
  obtain ⟨a, ha, hc⟩ := h2 k v hk
  exact ⟨a, ha, by rw [← hc]; simp [World.cell?, e]⟩
set_option maxHeartbeats 800000 in
theorem take_ok (g n : Nat) (bs : List UInt8) (w : World) (h : RdOk w g bs) (hn : n ≤ bs.length) (hm : bs.length ≤ 140737490100000) :
    Calls Try.prog 72 #[.pointer (some ⟨g, 0, none⟩), .int .i64 n] w fun e w' => ∃ A', e = .returned (.tuple #[.slice A' n n, .bool true]) ∧ RB w' A' (bs.take n) ∧ (A' = none → n = 0) ∧ RdOk w' g (bs.drop n) ∧ w.grownBy w' (some g) := by
  obtain ⟨A, c, h⟩ := h
  have h0 := h.rest
  have h1 := h.err
  have h2 := h.made
  have hf := h.free 0
  have hcap := h.cap
  have hlen : (bs.drop n).length = bs.length - n := by simp
  go_enter Try.func72, Try.ntmps72
  go_wp2_with (first
    | (refine wpList_cut _ rfl (.tmp 35) none (some (.tmp 36)) (some (.tmp 37)) 29 rfl 5 _ 1 1 Try.underlying29 info_u8 A bs.length c rfl 0 n n rfl ⟨_, rfl⟩ ⟨_, rfl⟩ (by simp) (by omega) (by omega) (by omega) ?_; intro A1 hA1)
    | (refine wpList_cut _ rfl (.tmp 43) (some (.tmp 44)) none none 29 rfl 5 _ 1 1 Try.underlying29 info_u8 A bs.length c rfl n bs.length c ⟨_, rfl⟩ rfl rfl (by simp) (by omega) (by omega) (by omega) ?_; intro A2 hA2))
  go_returns
  have e1 : RB w A1 (bs.take n) := by have := h.bytes.cut hA1 (h := n) (Nat.le_refl _); simpa using this
  have hr := h.put (A' := A2) (c' := c - n) (cs := bs.drop n) (h.bytes.from hA2 hcap) (hA2.cap0 h.cap0) (by rw [hlen]; omega) (hA2.block h.block)
  rw [hlen] at hr
  refine ⟨A1, by simp, Lies.grown e1 (Lib.grownBy_setCell w g 0 _) (fun a e e2 => Nat.ne_of_lt (hA1.block h.block a e) (by injection e2)), ?_, ⟨_, _, hr⟩, Lib.grownBy_setCell w g 0 _⟩
  exact hA1.cap0 (fun e => by have := h.cap0 e; omega)
theorem lead_head : ∀ k : Fin 8, ∀ y : Fin 128, y.val < 2 ^ (7 - k.val) → Lib.bitLen (255 - (256 - 2 ^ (8 - k.val) + y.val)) = 8 - k.val := by decide +kernel
theorem and_head : ∀ k : Fin 8, ∀ y : Fin 128, y.val < 2 ^ (7 - k.val) → (256 - 2 ^ (8 - k.val) + y.val) &&& (255 / 2 ^ k.val) = y.val := by decide +kernel
theorem not_head : ∀ h : Fin 256, 255 ^^^ h.val = 255 - h.val := by decide +kernel
theorem not_num {h : Nat} (hh : h < 256) : Go.bits .xor .u8 IntKind.u8.max (h : Int) = ((255 - h : Nat) : Int) := by
  rw [show IntKind.u8.max = ((255 : Nat) : Int) from rfl, u8_xor_nat _ _ (by decide) hh, not_head ⟨h, hh⟩]
theorem lead_num {x : Nat} (hx : x < 18446744073709551616) : Lib.bitLen (255 - headNum x) = 8 - need x := by
  have hk := need_le x
  unfold headNum
  by_cases h8 : need x < 8
  · rw [if_pos h8]
    have h1 := high_lt hx h8
    have h2 : 2 ^ (7 - need x) ≤ 128 := Nat.pow_le_pow_right (show 0 < 2 by decide) (show 7 - need x ≤ 7 by omega)
    exact lead_head ⟨need x, h8⟩ ⟨x / 256 ^ need x, by omega⟩ h1
  · rw [if_neg h8, show need x = 8 by omega]
    decide
theorem and_num {x : Nat} (hx : x < 18446744073709551616) (h8 : need x < 8) : headNum x &&& (255 / 2 ^ need x) = x / 256 ^ need x := by
  unfold headNum
  rw [if_pos h8]
  have h1 := high_lt hx h8
  have h2 : 2 ^ (7 - need x) ≤ 128 := Nat.pow_le_pow_right (show 0 < 2 by decide) (show 7 - need x ≤ 7 by omega)
  exact and_head ⟨need x, h8⟩ ⟨x / 256 ^ need x, by omega⟩ h1
theorem tailBytes_at (x k j : Nat) (hj : j < k) : (tailBytes x k)[j]'(by rw [tailBytes_length]; exact hj) = UInt8.ofNat (x / 256 ^ (k - 1 - j)) := by
  induction k generalizing j with
  | zero => omega
  | succ k ih =>
    cases j with
    | zero => rfl
    | succ j =>
      have := ih j (by omega)
      simp only [tailBytes, List.getElem_cons_succ]
      rw [this, show k + 1 - 1 - (j + 1) = k - 1 - j by omega]
theorem or_next (x m n : Nat) (hx : x < 18446744073709551616) (hn : n = m + 1) : Go.bits .or .u64 (IntKind.u64.wrap (((x / 256 ^ n : Nat) : Int) * 256)) ((x / 256 ^ m % 256 : Nat) : Int) = ((x / 256 ^ m : Nat) : Int) := by
  subst hn
  rw [Nat.pow_succ, ← Nat.div_div_eq_div_mul]
  have hy : x / 256 ^ m < 18446744073709551616 := Nat.lt_of_le_of_lt (Nat.div_le_self _ _) hx
  generalize x / 256 ^ m = y at hy ⊢
  rw [IntKind.wrap_u64, show ((y / 256 : Nat) : Int) * 256 % 18446744073709551616 = ((y / 256 * 256 : Nat) : Int) by omega, u64_or_nat _ _ (by omega) (by omega)]
  have := Nat.two_pow_add_eq_or_of_lt (i := 8) (b := y % 256) (by omega) (y / 256)
  rw [Nat.mul_comm] at this
  rw [show (256 : Nat) = 2 ^ 8 from rfl, ← this]
  omega
set_option maxHeartbeats 1600000 in
theorem raw_ok (g x : Nat) (rest : List UInt8) (w : World) (hx : x < 18446744073709551616) (h : RdOk w g (numBytes x ++ rest)) (hm : rest.length ≤ 140737490000000) :
    Calls Try.prog 82 #[.pointer (some ⟨g, 0, none⟩)] w fun e w' => e = .returned (.tuple #[.int .u64 x, .bool true]) ∧ RdOk w' g rest ∧ w.grownBy w' (some g) := by
  have hlen : (numBytes x ++ rest).length = need x + 1 + rest.length := by rw [List.length_append, numBytes_length]
  have hk := need_le x
  have HT1 := take_ok g 1 (numBytes x ++ rest) w h (by omega) (by omega)
  have e1 : (numBytes x ++ rest).take 1 = [UInt8.ofNat (headNum x)] := rfl
  have e2 : (numBytes x ++ rest).drop 1 = tailBytes x (need x) ++ rest := rfl
  rw [e1, e2] at HT1
  have HT1 := Lib.hid HT1
  clear e1 e2 hlen
  have hh := headNum_lt hx
  have hhb : (UInt8.ofNat (headNum x)).toNat = headNum x := by rw [UInt8.toNat_ofNat', Nat.mod_eq_of_lt hh]
  go_enter Try.func82, Try.ntmps82
  go_wp2_with fail
  refine HT1.out.mono ?_
  rintro e w1 ⟨A1, rfl, r1, hA1, hr1, hg1⟩
  obtain ⟨a, rfl, hc⟩ := r1.at (k := 0) (by simp)
  rw [Addr.add_zero', List.getElem_cons_zero, hhb] at hc
  have HNot := Lib.hid (not_num hh)
  have HLd := lead_num hx
  have HAnd := fun h8 => and_num hx h8
  obtain ⟨k, hk0⟩ : ∃ k, k = need x := ⟨_, rfl⟩
  rw [← hk0] at hk HLd HAnd
  have HLZ := leadingZeros8 ((255 - headNum x : Nat) : Int) w1 (by omega) (by omega)
  rw [Int.toNat_natCast, HLd, show ((8 : Int) - ((8 - k : Nat) : Int)) = (k : Int) by omega] at HLZ
  have HLZ := Lib.hid HLZ
  have HK := Lib.hid hk0
  clear HLd hk0
  go_wp2_with fail
  rw [HNot.out]
  refine HLZ.out.mono ?_
  rintro e w2 ⟨rfl, rfl⟩
  by_cases h8 : k < 8
  · have hq : decide ((k : Int) < 8) = true := decide_eq_true (by omega)
    have HV : Hid (IntKind.u64.wrap (bits .and .u8 (headNum x : Int) (255 / 2 ^ k)) = ((x / 256 ^ (k - 0) : Nat) : Int)) := by
      show _ = _
      rw [show ((255 : Int) / 2 ^ k) = ((255 / 2 ^ k : Nat) : Int) by simp, u8_and_nat _ _ hh (by have := Nat.div_le_self 255 (2 ^ k); omega), HAnd h8, IntKind.wrap_u64]
      have := Nat.div_le_self x (256 ^ k)
      rw [Nat.sub_zero]
      omega
    clear HAnd hhb
    go_wp2_with fail
    go_quiet (fail)
    go_wp2_with fail
    rw [HV.out]
    have hrW := hr1.heap (w' := w2.drewN nq) rfl
    have hgW : w.grownBy (w2.drewN nq) (some g) := Lib.grownBy_trans hg1 ⟨rfl, rfl, rfl, Nat.le_refl _, fun _ _ _ => rfl⟩
    clear HV hr1 hg1
    generalize w2.drewN nq = W at hrW hgW ⊢
    rw [← HK.out] at hrW
    have hlen2 : (tailBytes x k ++ rest).length = k + rest.length := by rw [List.length_append, tailBytes_length]
    have HT2 := take_ok g k (tailBytes x k ++ rest) W hrW (by omega) (by omega)
    rw [List.take_append_of_le_length (by rw [tailBytes_length]; exact Nat.le_refl _), List.take_of_length_le (by rw [tailBytes_length]; exact Nat.le_refl _), List.drop_append_of_le_length (by rw [tailBytes_length]; exact Nat.le_refl _), List.drop_of_length_le (by rw [tailBytes_length]; exact Nat.le_refl _), List.nil_append] at HT2
    have HT2 := Lib.hid HT2
    clear hlen2
    go_wp2_with fail
    refine HT2.out.mono ?_
    rintro e w3 ⟨A3, rfl, r3, hA3, hr3, hg3⟩
    have hgw := Lib.grownBy_trans hgW hg3
    clear HT2 hrW hgW hg3 hc hA1 hA3
    go_wp2
    go_loopg [7, 41] k (fun r v i wr => wr = w3 ∧ ∃ j : Nat, j + r = k ∧ i = .int .i64 j ∧ v = .int .u64 ((x / 256 ^ (k - j) : Nat) : Int))
    case atStart => exact ⟨rfl, 0, by omega, rfl, rfl⟩
    case round =>
      obtain ⟨rfl, j, hj, rfl, rfl⟩ := hrel
      by_cases hjk : j < k
      · obtain ⟨a3, rfl, hc3⟩ := r3.at (k := j) (by rw [tailBytes_length]; exact hjk)
        have hb : ((tailBytes x k)[j]'(by rw [tailBytes_length]; exact hjk)).toNat = x / 256 ^ (k - (j + 1)) % 256 := by
          rw [tailBytes_at _ _ _ hjk, UInt8.toNat_ofNat', show k - 1 - j = k - (j + 1) by omega]
        rw [hb] at hc3
        have HV : Hid (Go.bits .or .u64 (IntKind.u64.wrap ((x : Int) / 256 ^ (k - j) * 256)) ((x : Int) / 256 ^ (k - (j + 1)) % 256) = ((x / 256 ^ (k - (j + 1)) : Nat) : Int)) := by
          show _ = _
          rw [show ((x : Int) / 256 ^ (k - j)) = ((x / 256 ^ (k - j) : Nat) : Int) by simp, show ((x : Int) / 256 ^ (k - (j + 1)) % 256) = ((x / 256 ^ (k - (j + 1)) % 256 : Nat) : Int) by simp]
          exact or_next x (k - (j + 1)) (k - j) hx (by omega)
        clear hb
        go_wp2
        go_roundg (k - (j + 1))
        case measure => omega
        case rel => exact ⟨rfl, j + 1, by omega, by go_num, by rw [HV.out]⟩
      · obtain rfl : j = k := by omega
        rw [show x / 256 ^ (j - j) = x by simp]
        go_wp2_with fail
        refine (need_any x _ hx).mono ?_
        rintro e w4 ⟨rfl, rfl⟩
        rw [← HK.out]
        go_wp2
        go_returns
        exact ⟨rfl, hr3, hgw⟩
  · have hq : decide ((k : Int) < 8) = false := decide_eq_false (by omega)
    have hrW := hr1
    have hgW := hg1
    rw [← HK.out] at hrW
    have HV : Hid ((0 : Int) = ((x / 256 ^ (k - 0) : Nat) : Int)) := by
      show _ = _
      rw [show k - 0 = 8 by omega, Nat.div_eq_of_lt (by omega)]; rfl
    clear hr1 hg1 HAnd hhb
    go_wp2_with fail
    obtain ⟨W, rfl⟩ : ∃ W, W = w2 := ⟨_, rfl⟩
    have hlen2 : (tailBytes x k ++ rest).length = k + rest.length := by rw [List.length_append, tailBytes_length]
    have HT2 := take_ok g k (tailBytes x k ++ rest) W hrW (by omega) (by omega)
    rw [List.take_append_of_le_length (by rw [tailBytes_length]; exact Nat.le_refl _), List.take_of_length_le (by rw [tailBytes_length]; exact Nat.le_refl _), List.drop_append_of_le_length (by rw [tailBytes_length]; exact Nat.le_refl _), List.drop_of_length_le (by rw [tailBytes_length]; exact Nat.le_refl _), List.nil_append] at HT2
    have HT2 := Lib.hid HT2
    clear hlen2
    go_wp2_with fail
    refine HT2.out.mono ?_
    rintro e w3 ⟨A3, rfl, r3, hA3, hr3, hg3⟩
    have hgw := Lib.grownBy_trans hgW hg3
    clear HT2 hrW hgW hg3 hc hA1 hA3
    go_wp2
    go_loopg [7, 41] k (fun r v i wr => wr = w3 ∧ ∃ j : Nat, j + r = k ∧ i = .int .i64 j ∧ v = .int .u64 ((x / 256 ^ (k - j) : Nat) : Int))
    case atStart => exact ⟨rfl, 0, by omega, rfl, by rw [← HV.out]⟩
    case round =>
      obtain ⟨rfl, j, hj, rfl, rfl⟩ := hrel
      by_cases hjk : j < k
      · obtain ⟨a3, rfl, hc3⟩ := r3.at (k := j) (by rw [tailBytes_length]; exact hjk)
        have hb : ((tailBytes x k)[j]'(by rw [tailBytes_length]; exact hjk)).toNat = x / 256 ^ (k - (j + 1)) % 256 := by
          rw [tailBytes_at _ _ _ hjk, UInt8.toNat_ofNat', show k - 1 - j = k - (j + 1) by omega]
        rw [hb] at hc3
        have HV : Hid (Go.bits .or .u64 (IntKind.u64.wrap ((x : Int) / 256 ^ (k - j) * 256)) ((x : Int) / 256 ^ (k - (j + 1)) % 256) = ((x / 256 ^ (k - (j + 1)) : Nat) : Int)) := by
          show _ = _
          rw [show ((x : Int) / 256 ^ (k - j)) = ((x / 256 ^ (k - j) : Nat) : Int) by simp, show ((x : Int) / 256 ^ (k - (j + 1)) % 256) = ((x / 256 ^ (k - (j + 1)) % 256 : Nat) : Int) by simp]
          exact or_next x (k - (j + 1)) (k - j) hx (by omega)
        clear hb
        go_wp2
        go_roundg (k - (j + 1))
        case measure => omega
        case rel => exact ⟨rfl, j + 1, by omega, by go_num, by rw [HV.out]⟩
      · obtain rfl : j = k := by omega
        rw [show x / 256 ^ (j - j) = x by simp]
        go_wp2_with fail
        refine (need_any x _ hx).mono ?_
        rintro e w4 ⟨rfl, rfl⟩
        rw [← HK.out]
        go_wp2
        go_returns
        exact ⟨rfl, hr3, hgw⟩
end Go.Proofs.Ytjfpanamkkdebaa
