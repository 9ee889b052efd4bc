/- A log, and a device, that no call made: the walk of JournalNobody. -/
import Derived.Test.YtjfpanamkkdebaaJnT
namespace Go.Proofs.Ytjfpanamkkdebaa
open Go.RowKit
set_option linter.unusedVariables false
set_option linter.unusedSimpArgs false
/-- A log that no call made: none, or of noughts. -/
def NoLog (w : World) (p : Option Addr) : Prop := p = none ∨ ∃ l, p = some ⟨l, 0, none⟩ ∧ w.heap[l]? = some (.cells #[.int .i64 0, .int .i64 0, .int .i64 0, .int .i64 0, .slice none 0 0, .pointer none, .slice none 0 0, .slice none 0 0, .int .i64 0] 65 (0, 0))
theorem may_no (p : Option Addr) (w : World) (h : NoLog w p) : Calls Try.prog 47 #[.pointer p] w fun e w' => e = .returned (.int .i64 2) ∧ w = w' := by
  rcases h with rfl | ⟨l, rfl, h⟩
  · go_enter Try.func47, Try.ntmps47
    go_wp2
    go_ret
    exact ⟨rfl, rfl⟩
  · have k5 : w.cell? ⟨l, 5, none⟩ = some (.pointer none) := blk_cell h
    clear h
    go_enter Try.func47, Try.ntmps47
    go_wp2
    go_ret
    exact ⟨rfl, rfl⟩
theorem append_no (p : Option Addr) (v : Value) (w : World) (h : NoLog w p) : Calls Try.prog 21 #[.pointer p, v] w fun e w' => e = .returned (.tuple #[.int .i64 0, .int .i64 2]) ∧ w = w' := by
  have HM := Lib.hid (may_no p w h)
  clear h
  go_enter Try.func21, Try.ntmps21
  go_wp2_with (go_at_call 47; refine HM.out.mono ?_; rintro e w' ⟨rfl, rfl⟩)
  go_returns
  exact ⟨rfl, rfl⟩
theorem lsync_no (p : Option Addr) (w : World) (h : NoLog w p) : Calls Try.prog 22 #[.pointer p] w fun e w' => e = .returned (.int .i64 2) ∧ w = w' := by
  have HM := Lib.hid (may_no p w h)
  clear h
  go_enter Try.func22, Try.ntmps22
  go_wp2_with (go_at_call 47; refine HM.out.mono ?_; rintro e w' ⟨rfl, rfl⟩)
  go_ret
  exact ⟨rfl, rfl⟩
theorem save_no (p : Option Addr) (v : Value) (w : World) (h : NoLog w p) : Calls Try.prog 26 #[.pointer p, v] w fun e w' => e = .returned (.int .i64 2) ∧ w = w' := by
  have HM := Lib.hid (may_no p w h)
  clear h
  go_enter Try.func26, Try.ntmps26
  go_wp2_with (go_at_call 47; refine HM.out.mono ?_; rintro e w' ⟨rfl, rfl⟩)
  go_ret
  exact ⟨rfl, rfl⟩
theorem sure_no (p : Option Addr) (w : World) (h : NoLog w p) : Calls Try.prog 25 #[.pointer p] w fun e w' => e = .returned (.int .i64 0) ∧ w = w' := by
  rcases h with rfl | ⟨l, rfl, h⟩
  · go_enter Try.func25, Try.ntmps25
    go_wp2
    go_ret
    exact ⟨rfl, rfl⟩
  · have k5 : w.cell? ⟨l, 8, none⟩ = some (.int .i64 0) := blk_cell h
    clear h
    go_enter Try.func25, Try.ntmps25
    go_wp2
    go_ret
    exact ⟨rfl, rfl⟩
theorem snapshot_no (p : Option Addr) (w : World) (h : NoLog w p) : Calls Try.prog 15 #[.pointer p] w fun e w' => ∃ A c, e = .returned (.slice A 0 c) ∧ Below w.heap.size w w' := by
  rcases h with rfl | ⟨l, rfl, h⟩
  · go_enter Try.func15, Try.ntmps15
    go_wp2
    go_ret
    exact ⟨none, 0, rfl, Below.refl _ _⟩
  · have k6 : w.cell? ⟨l, 6, none⟩ = some (.slice none 0 0) := blk_cell h
    have HC := Lib.hid (bclone_wide none 0 [] w (by decide) (fun _ => rfl) (Lies.nil _ _))
    clear h
    go_enter Try.func15, Try.ntmps15
    go_wp2_with (go_at_call 40; refine HC.out.mono ?_; rintro e w' ⟨v, rfl, ho, hb⟩)
    go_ret
    obtain ⟨A, c, rfl, -⟩ := OB.form ho
    exact ⟨A, c, rfl, hb⟩
theorem records_no (p : Option Addr) (w : World) (h : NoLog w p) : Calls Try.prog 17 #[.pointer p] w fun e w' => e = .returned (.slice none 0 0) ∧ w = w' := by
  rcases h with rfl | ⟨l, rfl, h⟩
  · go_enter Try.func17, Try.ntmps17
    go_wp2
    go_ret
    exact ⟨rfl, rfl⟩
  · have k7 : w.cell? ⟨l, 7, none⟩ = some (.slice none 0 0) := blk_cell h
    clear h
    go_enter Try.func17, Try.ntmps17
    go_wp2_with fail
    go_loopg [3, 13] 0 (fun r s3 s13 wr => r = 0 ∧ s3 = .slice none 0 0 ∧ s13 = .int .i64 0 ∧ w = wr)
    case atStart => exact ⟨rfl, rfl, rfl, rfl⟩
    case round =>
      obtain ⟨rfl, rfl, rfl, rfl⟩ := hrel
      go_wp2
      go_ret
      exact ⟨rfl, rfl⟩
theorem size_no (w : World) : Calls Try.prog 11 #[.pointer none] w fun e w' => e = .returned (.int .i64 0) ∧ w = w' := by
  go_enter Try.func11, Try.ntmps11
  go_wp2
  go_returns
  exact ⟨rfl, rfl⟩
theorem open_no (w : World) : Calls Try.prog 12 #[.pointer none] w fun e w' => e = .returned (.tuple #[.pointer none, .int .i64 2]) ∧ w = w' := by
  have HS := Lib.hid (size_no w)
  go_enter Try.func12, Try.ntmps12
  go_wp2_with (go_at_call 11; refine HS.out.mono ?_; rintro e w' ⟨rfl, rfl⟩)
  go_returns
  exact ⟨rfl, rfl⟩
theorem format_no (v : Value) (w : World) : Calls Try.prog 27 #[.pointer none, v] w fun e w' => e = .returned (.tuple #[.pointer none, .int .i64 2]) ∧ w = w' := by
  have HS := Lib.hid (size_no w)
  go_enter Try.func27, Try.ntmps27
  go_wp2_with (go_at_call 11; refine HS.out.mono ?_; rintro e w' ⟨rfl, rfl⟩)
  go_returns
  exact ⟨rfl, rfl⟩
theorem nb1 : (openP (fresh 7)).e = 3 ∧ (formatP (openP (fresh 7)).d []).e = 1 := by decide +kernel
theorem nb2 : (openP ((formatP (openP (fresh 7)).d []).d.fused 0).synced).e = 9 := by decide +kernel
set_option maxRecDepth 100000 in
set_option maxHeartbeats 3200000 in
theorem journalNobody_walk (A : Option Addr) (c : Nat) (bs : List UInt8) (w : World) (hr : RB w A bs) (hA : A = none → c = 0) (hl : bs.length ≤ c) (hm : bs.length ≤ 140737488351232) :
    Calls Try.prog 6 #[.slice A bs.length c] w fun e w' => e = .returned (.bool true) ∧ Below w.heap.size w w' := by
  clear hr hA hl hm
  generalize bs.length = n
  go_enter Try.func6, Try.ntmps6
  go_wp2_with fail
  have hs0 : (w.alloc (.cells #[.int .i64 0, .int .i64 0, .int .i64 0, .int .i64 0, .slice none 0 0, .pointer none, .slice none 0 0, .slice none 0 0, .int .i64 0] 65)).heap.size = w.heap.size + 1 := by simp
  have hb0 : Below w.heap.size w ((w.alloc (.cells #[.int .i64 0, .int .i64 0, .int .i64 0, .int .i64 0, .slice none 0 0, .pointer none, .slice none 0 0, .slice none 0 0, .int .i64 0] 65)).alloc (.cells #[.pointer none, .pointer (some ⟨w.heap.size, 0, none⟩)] 32)) := ((Below.refl _ _).alloc (Nat.le_refl _) _).alloc (by simp) _
  have hX0 : ((w.alloc (.cells #[.int .i64 0, .int .i64 0, .int .i64 0, .int .i64 0, .slice none 0 0, .pointer none, .slice none 0 0, .slice none 0 0, .int .i64 0] 65)).alloc (.cells #[.pointer none, .pointer (some ⟨w.heap.size, 0, none⟩)] 32)).heap[w.heap.size]? = some (.cells #[.int .i64 0, .int .i64 0, .int .i64 0, .int .i64 0, .slice none 0 0, .pointer none, .slice none 0 0, .slice none 0 0, .int .i64 0] 65 (0, 0)) := blk_alloc (heap_alloc_new w _)
  have hX1 := heap_alloc_new (w.alloc (.cells #[.int .i64 0, .int .i64 0, .int .i64 0, .int .i64 0, .slice none 0 0, .pointer none, .slice none 0 0, .slice none 0 0, .int .i64 0] 65)) (.cells #[.pointer none, .pointer (some ⟨w.heap.size, 0, none⟩)] 32)
  rw [hs0] at hX1
  generalize ((w.alloc (.cells #[.int .i64 0, .int .i64 0, .int .i64 0, .int .i64 0, .slice none 0 0, .pointer none, .slice none 0 0, .slice none 0 0, .int .i64 0] 65)).alloc (.cells #[.pointer none, .pointer (some ⟨w.heap.size, 0, none⟩)] 32)) = wB at *
  clear hs0
  have hl0 := blk_lt hX0
  have hl1 := blk_lt hX1
  have HX := Lib.hid (⟨hb0, hX0, hX1⟩ : _ ∧ _ ∧ _)
  clear hb0 hX0 hX1
  go_loopg [23] 2 (fun r s23 wr => ∃ j : Nat, j + r = 2 ∧ s23 = .int .i64 j ∧ Below wB.heap.size wB wr)
  case atStart => exact ⟨0, by omega, rfl, Below.refl _ _⟩
  case round =>
    obtain ⟨j, hj, rfl, hbW⟩ := hrel
    have hx0 : ∀ W, Below wB.heap.size wB W → W.heap[w.heap.size]? = _ := fun W hb => (hb.block _ hl0).trans HX.out.2.1
    have hx1 := (hbW.block _ hl1).trans HX.out.2.2
    by_cases hjl : j < 2
    · have hj1 : decide ((j : Int) < 2) = true := decide_eq_true (by omega)
      have hj2 : (j : Int) < 2 := by omega
      have hj0 : (0 : Int) ≤ (j : Int) := by omega
      obtain ⟨p, hp, hno⟩ : ∃ p : Option Addr, wr.cell? ⟨w.heap.size + 1, j, none⟩ = some (.pointer p) ∧ ∀ W, Below wB.heap.size wB W → NoLog W p := by
        match j, hjl with
        | 0, _ => exact ⟨none, blk_cell hx1, fun W hb => .inl rfl⟩
        | 1, _ => exact ⟨_, blk_cell hx1, fun W hb => .inr ⟨_, rfl, hx0 W hb⟩⟩
      have HNo := Lib.hid hno
      clear hno hx0 hx1
      go_wp2_with fail
      refine (append_no p _ wr (HNo.out wr hbW)).mono ?_
      rintro e w' ⟨rfl, rfl⟩
      go_wp2_with fail
      refine (snapshot_no p wr (HNo.out wr hbW)).mono ?_
      rintro e w1 ⟨A1, c1, rfl, hb1⟩
      have hbW1 := hbW.trans (hb1.mono hbW.size)
      clear hb1
      go_wp2_with (first
        | (go_at_call 17; refine (records_no p w1 (HNo.out w1 hbW1)).mono ?_; rintro e w' ⟨rfl, rfl⟩)
        | (go_at_call 25; refine (sure_no p w1 (HNo.out w1 hbW1)).mono ?_; rintro e w' ⟨rfl, rfl⟩)
        | (go_at_call 22; refine (lsync_no p w1 (HNo.out w1 hbW1)).mono ?_; rintro e w' ⟨rfl, rfl⟩)
        | (go_at_call 26; refine (save_no p _ w1 (HNo.out w1 hbW1)).mono ?_; rintro e w' ⟨rfl, rfl⟩))
      go_roundg (2 - (j + 1))
      case measure => omega
      case rel => exact ⟨j + 1, by omega, by go_num, hbW1⟩
    · obtain rfl : j = 2 := by omega
      have hj1 : decide (((2 : Nat) : Int) < 2) = false := by decide
      have hbE : Below w.heap.size w wr := HX.out.1.trans (hbW.mono HX.out.1.size)
      have HE := Lib.hid hbE
      clear hx0 hx1 hbW hbE hl0 hl1 HX
      go_wp2_with (first
        | (go_at_call 12; refine (open_no wr).mono ?_; rintro e w' ⟨rfl, rfl⟩)
        | (go_at_call 27; refine (format_no _ wr).mono ?_; rintro e w' ⟨rfl, rfl⟩))
      refine (new_any 7 wr (by decide) (by decide)).mono ?_
      rintro e w1 ⟨g, k, m, rfl, hd1, hb1, g1, g2, g3⟩
      go_wp2_with fail
      refine (open_log g k m 7 (fresh 7) w1 hd1).mono ?_
      rintro e w2 ⟨pv, rfl, hd2, ho2, h2⟩
      rcases h2 with ⟨_, rfl⟩ | ⟨h0, _⟩
      rotate_left
      · rw [nb1.1] at h0; cases h0
      rw [nb1.1]
      go_wp2_with fail
      refine (format_log g k m 7 (openP (fresh 7)).d none 0 [] w2 hd2 (Lies.nil _ _) (fun _ => rfl) (by decide) (by decide)).mono ?_
      rintro e w3 ⟨pv, rfl, hd3, ho3, h3⟩
      rcases h3 with ⟨_, rfl⟩ | ⟨h0, _⟩
      rotate_left
      · rw [nb1.2] at h0; cases h0
      rw [nb1.2]
      go_wp2_with fail
      refine (fuse_any g k m 7 _ 0 w3 hd3 (by decide) (by decide)).mono ?_
      rintro e w4 ⟨rfl, hd4, ho4⟩
      generalize (formatP (openP (fresh 7)).d []).d.fuseE = u4
      go_wp2_with fail
      refine (sync_any g k m 7 _ w4 hd4).mono ?_
      rintro e w5 ⟨rfl, hd5, ho5⟩
      generalize (((formatP (openP (fresh 7)).d []).d.fused 0).actE) = u5
      go_wp2_with fail
      refine (open_log g k m 7 _ w5 hd5).mono ?_
      rintro e w6 ⟨pv, rfl, hd6, ho6, h6⟩
      rcases h6 with ⟨_, rfl⟩ | ⟨h0, _⟩
      rotate_left
      · rw [nb2] at h0; cases h0
      rw [nb2]
      have hoE : Only w1 w6 [g, k, m] := (((ho2.trans ho3).trans (ho4.mono (by simp))).trans ho5).trans ho6
      have hb16 : Below wr.heap.size w1 w6 := hoE.below (by simp; omega) hb1.size
      have hbF := HE.out.trans ((hb1.trans hb16).mono HE.out.size)
      have HAw := Lib.hid (jawake_any w6)
      clear hd1 hd2 hd3 hd4 hd5 hd6 ho2 ho3 ho4 ho5 ho6 hoE hb16 hb1
      have HF := Lib.hid hbF
      clear hbF
      go_wp2_with (go_at_call 13; refine HAw.out.mono ?_; rintro e w' ⟨rfl, hb⟩)
      go_ret
      exact ⟨rfl, HF.out.trans (hb.mono HF.out.size)⟩
end Go.Proofs.Ytjfpanamkkdebaa
