/- The example, and the walk of the law of dictionaries of any words. -/
import Derived.Test.YtjmojfhkajknlaaDiK
import Derived.Test.YtjmojfhkajknlaaCoK
namespace Go.Proofs.Ytjmojfhkajknlaa
open Go.RowKit
set_option linter.unusedVariables false
set_option linter.unusedSimpArgs false
theorem DOk.any {w w' : World} {g : Nat} {vH vB : Value} {l : List (List UInt8)} {B : Nat} (h : DAt w g vH vB l) (hb : Below w.heap.size w w') : DOk w' g l := h.ok.below hb
theorem bytes_any (g : Nat) (l : List (List UInt8)) (w : World) (h : DOk w g l) (hl : l.length ≤ 16384) (hx : ∀ x ∈ l, x.length ≤ 64) :
    Calls Try.prog 16 #[.pointer (some ⟨g, 0, none⟩)] w fun e w' => ∃ v, e = .returned v ∧ OB w' w.heap.size v (dictBytes l) ∧ Below w.heap.size w w' :=
  bytes_of _ l w hl hx (len_any g l w h) (fun w' hb => words_any g l w' (h.below hb) hl hx)
theorem whyNot_zero {l : List (List UInt8)} (h : whyNot l = 0) : l.length ≤ 16384 ∧ chk [] l = true := by
  unfold whyNot at h
  split at h
  · cases h
  · split at h
    · exact ⟨by omega, by assumption⟩
    · cases h
def foxes : List ByteArray := [⟨#[102, 111, 120]⟩, ⟨#[102, 111, 120, 101, 115]⟩, ⟨#[114, 117, 110]⟩]
theorem foxes_may : whyNot (wl foxes) = 0 := by decide
theorem foxes_bytes : dictBytes (wl foxes) = [3, 0, 3, 102, 111, 120, 3, 2, 101, 115, 0, 3, 114, 117, 110] := by decide
set_option maxHeartbeats 1600000 in
theorem dawake_any (w : World) :
    Calls Try.prog 8 #[] w fun e w' => e = .returned (.bool true) ∧ Below w.heap.size w w' := by
  have r0 : Lies (w.alloc (.cells #[.string ⟨#[102, 111, 120]⟩, .string ⟨#[102, 111, 120, 101, 115]⟩, .string ⟨#[114, 117, 110]⟩] 9)) (some ⟨w.heap.size, 0, none⟩) (foxes.map Value.string) := Lies.new w 9 _ (0, 0)
  have HB := Lib.hid (build_any (some ⟨w.heap.size, 0, none⟩) 3 foxes _ r0 (by decide))
  have b0 : Below w.heap.size w (w.alloc (.cells #[.string ⟨#[102, 111, 120]⟩, .string ⟨#[102, 111, 120, 101, 115]⟩, .string ⟨#[114, 117, 110]⟩] 9)) := (Below.refl _ _).alloc (Nat.le_refl _) _
  have s0 : w.heap.size + 1 = (w.alloc (.cells #[.string ⟨#[102, 111, 120]⟩, .string ⟨#[102, 111, 120, 101, 115]⟩, .string ⟨#[114, 117, 110]⟩] 9)).heap.size := by simp
  have B0 := Lib.hid b0
  have S0 := Lib.hid s0
  clear r0 b0 s0
  go_enter Try.func8, Try.ntmps8
  go_wp2_with fail
  refine HB.out.mono ?_
  rintro e w1 ⟨hb, ⟨h0, g, vH, vB, rfl, hd, hg⟩ | ⟨h0, _⟩⟩
  · have hw := whyNot_zero h0
    have HBy := Lib.hid (bytes_any g (wl foxes) w1 hd.ok hw.1 (chk_len hw.2))
    rw [foxes_bytes] at HBy
    have hb1 := B0.out.trans (hb.mono (by have := S0.out; omega))
    clear hb h0 hd hg hw HB B0 S0
    go_wp2_with fail
    refine HBy.out.mono ?_
    rintro e w2 ⟨v2, rfl, ho2, hb2⟩
    obtain ⟨A2, c2, rfl, hl2, hA2⟩ := ho2.form
    have r2 := (RB.of_own ho2).below ((Below.refl w2.heap.size w2).alloc (Nat.le_refl _) (.cells #[.int .u8 3, .int .u8 0, .int .u8 3, .int .u8 102, .int .u8 111, .int .u8 120, .int .u8 3, .int .u8 2, .int .u8 101, .int .u8 115, .int .u8 0, .int .u8 3, .int .u8 114, .int .u8 117, .int .u8 110] 5))
    have r3 : RB (w2.alloc (.cells #[.int .u8 3, .int .u8 0, .int .u8 3, .int .u8 102, .int .u8 111, .int .u8 120, .int .u8 3, .int .u8 2, .int .u8 101, .int .u8 115, .int .u8 0, .int .u8 3, .int .u8 114, .int .u8 117, .int .u8 110] 5)) (some ⟨w2.heap.size, 0, none⟩) [3, 0, 3, 102, 111, 120, 3, 2, 101, 115, 0, 3, 114, 117, 110] := RB.new w2 5 [3, 0, 3, 102, 111, 120, 3, 2, 101, 115, 0, 3, 114, 117, 110] (0, 0)
    have HQ := Lib.hid (equal_of A2 (some ⟨w2.heap.size, 0, none⟩) c2 15 15 15 _ _ _ r2 r3 rfl rfl (b := true) (by decide))
    have hb3 := (hb1.trans (hb2.mono hb1.size)).alloc (Nat.le_trans hb1.size hb2.size) (.cells #[.int .u8 3, .int .u8 0, .int .u8 3, .int .u8 102, .int .u8 111, .int .u8 120, .int .u8 3, .int .u8 2, .int .u8 101, .int .u8 115, .int .u8 0, .int .u8 3, .int .u8 114, .int .u8 117, .int .u8 110] 5)
    clear ho2 r2 r3 hb2 HBy hb1
    go_wp2_with fail
    refine HQ.out.mono ?_
    rintro e w3 ⟨rfl, rfl⟩
    go_wp2
    go_ret
    exact ⟨rfl, hb3⟩
  · exact absurd foxes_may h0
set_option maxHeartbeats 3200000 in
theorem dictBuilds_walk (A : Option Addr) (c : Nat) (ws : List ByteArray) (i : Int) (w : World) (hr : Lies w A (ws.map Value.string)) (hA : A = none → c = 0) (hlc : ws.length ≤ c) (hm : ws.length ≤ 9223372036854775807) (_hi : (Lit.int .i64 i).wf = true) :
    Calls Try.prog 3 #[.slice A ws.length c, .int .i64 i] w fun e w' => e = .returned (.bool true) ∧ Below w.heap.size w w' := by
  have HF := Lib.hid (few_any A c ws w hr (by omega))
  have HB := Lib.hid (build_any A c ws w hr (by omega))
  have HAw : Hid (∀ w', Below w.heap.size w w' → Calls Try.prog 8 #[] w' fun e w'' => e = .returned (.bool true) ∧ Below w.heap.size w w'') :=
    fun w' hb => (dawake_any w').mono fun e w'' ⟨h1, h2⟩ => ⟨h1, hb.trans (h2.mono hb.size)⟩
  have HR := Lib.hid hr
  have hm2 : ws.length ≤ 9223372036854775807 := hm
  clear hr _hi hm hA
  go_enter Try.func3, Try.ntmps3
  go_wp2_with fail
  refine HF.out.mono ?_
  rintro e w' ⟨b, rfl, rfl⟩
  clear HF
  cases b with
  | false =>
    go_wp2_with fail
    refine (HAw.out _ (Below.refl _ _)).mono ?_
    rintro e w1 ⟨rfl, hb1⟩
    go_wp2
    go_ret
    exact ⟨rfl, hb1⟩
  | true =>
    go_wp2_with fail
    refine HB.out.mono ?_
    rintro e w1 ⟨hb, ⟨h0, g, vH, vB, rfl, hd, hg⟩ | ⟨h0, rfl⟩⟩
    · have hw := whyNot_zero h0
      have HC := Lib.hid (check_any A c ws w1 (HR.out.below hb) hm2)
      have HN0 : Hid (whyNot (wl ws) = 0) := h0
      rw [h0] at HC
      clear h0 HB
      go_wp2_with fail
      refine HC.out.mono ?_
      rintro e w' ⟨rfl, rfl⟩
      clear HC
      have hok := hd.ok
      have HLn : Hid (∀ w', Below w1.heap.size w1 w' → Calls Try.prog 12 #[.pointer (some ⟨g, 0, none⟩)] w' fun e w'' => e = .returned (.int .i64 ws.length) ∧ w' = w'') := by
        intro w' hb'
        have := len_any g _ w' (hok.below hb')
        rwa [wl_length] at this
      have hll : ws.length ≤ 16384 := by rw [← wl_length]; exact hw.1
      have HWd : Hid (∀ w', Below w.heap.size w w' → Below w1.heap.size w1 w' → Calls Try.prog 14 #[.pointer (some ⟨g, 0, none⟩)] w' fun e w'' => ∃ A2 c2, e = .returned (.slice A2 ws.length c2) ∧ Lies w'' A2 ((wl ws).map vs) ∧ Lies w'' A ((wl ws).map vs) ∧ Below w.heap.size w w'') := by
        intro w' hb2 hb3
        refine (words_any g (wl ws) w' (hok.below hb3) hw.1 (chk_len hw.2)).mono ?_
        rintro e w'' ⟨v, rfl, ho, hb4⟩
        obtain ⟨A2, c2, rfl, hL, hc, hA2⟩ := ho.lies
        have hb5 := hb2.trans (hb4.mono hb2.size)
        exact ⟨A2, c2, by rw [wl_length], hL, by rw [wl_vs]; exact HR.out.below hb5, hb5⟩
      have HEq : Hid (∀ w' A2 c2, Lies w' A2 ((wl ws).map vs) → Lies w' A ((wl ws).map vs) → Calls Try.prog 13 #[.slice A2 ws.length c2, .slice A ws.length c] w' fun e w'' => e = .returned (.bool true) ∧ ∃ q, w'' = w'.drewN q) := by
        intro w' A2 c2 h1 h2
        have := sequal_any A2 A c2 c (wl ws) w' h1 h2 (by rw [wl_length]; omega)
        rwa [wl_length] at this
      by_cases hi : 0 ≤ i ∧ i < (ws.length : Int)
      · obtain ⟨k, rfl⟩ : ∃ k : Nat, i = (k : Int) := ⟨i.toNat, by omega⟩
        have hk : k < ws.length := by omega
        have HAt := Lib.hid (at_in g _ k w1 hok (by rw [wl_length]; omega) hw.1 (chk_len hw.2))
        have hx : (wl ws)[k]'(by rw [wl_length]; omega) = by8 ws[k] := by simp [wl]
        rw [hx, str_by8] at HAt
        have HCell : Hid (∀ w', Below w.heap.size w w' → ∃ a, A = some a ∧ w'.cell? (a.add k) = some (.string ws[k])) := by
          intro w' hb'
          obtain ⟨a, ha, hc⟩ := (HR.out.below hb').at (k := k) (by simpa using hk)
          rw [List.getElem_map] at hc
          exact ⟨a, ha, hc⟩
        generalize ws[k] = s at HAt HCell
        have hq1 : decide ((k : Int) ≥ 0) = true := decide_eq_true (by omega)
        have hq2 : decide (k < ws.length) = true := decide_eq_true hk
        have hk0 : (0 : Int) ≤ (k : Int) := by omega
        have hk1 : (k : Int) < (ws.length : Int) := by omega
        obtain ⟨a, rfl, _⟩ := HCell.out w (Below.refl _ _)
        clear hx hw hd hg hok hi
        go_wp2_with fail
        refine HAt.out.mono ?_
        rintro e w2 ⟨rfl, hb2⟩
        have hb02 := hb.trans (hb2.mono hb.size)
        clear HAt
        go_wp2_with (first
          | (go_at_call 12; refine (HLn.out _ hb2).mono ?_; rintro e w' ⟨rfl, rfl⟩)
          | (go_at_call 14; refine (HWd.out _ hb02 hb2).mono ?_; rintro e w3 ⟨A2, c2, rfl, hL2, hLA, hb3⟩)
          | (go_at_call 13; refine (HEq.out _ A2 c2 hL2 hLA).mono ?_; rintro e w4 ⟨rfl, q, rfl⟩; obtain ⟨a4, ha4, hc⟩ := HCell.out _ hb3; (injection ha4 with ha4); subst ha4; have hb4 := below_drewN hb3 q)
          | (go_at_call 8; refine (HAw.out _ hb4).mono ?_; rintro e w5 ⟨rfl, hb5⟩))
        go_ret
        exact ⟨rfl, hb5⟩
      · have HAt := Lib.hid (at_out g _ i w1 hok (by rw [wl_length]; omega))
        clear hw hd hg hok
        by_cases hi0 : i < 0
        · have hq1 : decide (i ≥ 0) = false := decide_eq_false (by omega)
          have hq3 : decide (0 ≤ i) = false := decide_eq_false (by omega)
          have hq4 : ¬ (0 ≤ i) := by omega
          have hb2 := Below.refl w1.heap.size w1
          go_wp2_with (first
            | (go_at_call 11; refine HAt.out.mono ?_; rintro e w2 ⟨rfl, rfl⟩)
            | (go_at_call 12; refine (HLn.out _ hb2).mono ?_; rintro e w' ⟨rfl, rfl⟩)
            | (go_at_call 14; refine (HWd.out _ hb hb2).mono ?_; rintro e w3 ⟨A2, c2, rfl, hL2, hLA, hb3⟩)
            | (go_at_call 13; refine (HEq.out _ A2 c2 hL2 hLA).mono ?_; rintro e w4 ⟨rfl, q, rfl⟩; have hb4 := below_drewN hb3 q)
            | (go_at_call 8; refine (HAw.out _ hb4).mono ?_; rintro e w5 ⟨rfl, hb5⟩))
          go_ret
          exact ⟨rfl, hb5⟩
        · have hq1 : decide (i ≥ 0) = true := decide_eq_true (by omega)
          have hq2 : decide (i < (ws.length : Int)) = false := decide_eq_false (by omega)
          have hq3 : decide (0 ≤ i) = true := decide_eq_true (by omega)
          have hb2 := Below.refl w1.heap.size w1
          go_wp2_with (first
            | (go_at_call 11; refine HAt.out.mono ?_; rintro e w2 ⟨rfl, rfl⟩)
            | (go_at_call 12; refine (HLn.out _ hb2).mono ?_; rintro e w' ⟨rfl, rfl⟩)
            | (go_at_call 14; refine (HWd.out _ hb hb2).mono ?_; rintro e w3 ⟨A2, c2, rfl, hL2, hLA, hb3⟩)
            | (go_at_call 13; refine (HEq.out _ A2 c2 hL2 hLA).mono ?_; rintro e w4 ⟨rfl, q, rfl⟩; have hb4 := below_drewN hb3 q)
            | (go_at_call 8; refine (HAw.out _ hb4).mono ?_; rintro e w5 ⟨rfl, hb5⟩))
          go_ret
          exact ⟨rfl, hb5⟩
    · have HC := Lib.hid (check_any A c ws w1 (HR.out.below hb) hm2)
      have h0i : ((whyNot (wl ws) : Nat) : Int) ≠ 0 := by omega
      have hq : (((whyNot (wl ws) : Nat) : Int) != 0) = true := bne_iff_ne.mpr h0i
      have hq0 : (((whyNot (wl ws) : Nat) : Int) == 0) = false := beq_eq_false_iff_ne.mpr h0i
      generalize whyNot (wl ws) = N at HC hq hq0 h0i
      clear h0 HB
      go_wp2_with (first
        | (go_at_call 10; refine HC.out.mono ?_; rintro e w' ⟨rfl, rfl⟩)
        | (go_at_call 8; refine (HAw.out _ hb).mono ?_; rintro e w5 ⟨rfl, hb5⟩))
      go_ret
      exact ⟨rfl, hb5⟩
end Go.Proofs.Ytjmojfhkajknlaa
