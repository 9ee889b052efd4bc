/- A log made on a device. -/
import Derived.Test.YtjfpanamkkdebaaJnK
namespace Go.Proofs.Ytjfpanamkkdebaa
open Go.RowKit
set_option linter.unusedVariables false
set_option linter.unusedSimpArgs false
/-- The greater epoch of the two slots. -/
def Dsk.topS (d : Dsk) : Nat → Nat
  | 0 => 0
  | n + 1 => max (d.topS n) (d.sheet (n : Nat)).epoch
theorem Dsk.topS_lt (d : Dsk) : ∀ n, d.topS n < 4294967296
  | 0 => by unfold Dsk.topS; decide
  | n + 1 => by
    have h1 := d.topS_lt n
    have h2 := d.sheet_epoch (n : Nat)
    unfold Dsk.topS
    omega
def formatP (d : Dsk) (snap : List UInt8) : Laid :=
  if d.kept.length < 8 ∨ 262144 < snap.length then ⟨1, d, 0, 0⟩ else if d.dead then ⟨9, d, 0, 0⟩ else layP 1 (d.topS 2) 1 d snap []
set_option maxHeartbeats 3200000 in
theorem format_any (g k m c : Nat) (d : Dsk) (As : Option Addr) (cs : Nat) (snap : List UInt8) (w : World) (hd : DkAt w g k m c d) (hs : RB w As snap) (hAs : As = none → cs = 0) (hsc : snap.length ≤ cs) (hm : snap.length ≤ 9223372036854775807) :
    Calls Try.prog 27 #[.pointer (some ⟨g, 0, none⟩), .slice As snap.length cs] w fun e w' =>
      ∃ R, formatP d snap = R ∧ DkAt w' g k m c R.d ∧ Only w w' [g, k, m] ∧
        ((R.e ≠ 0 ∧ e = .returned (.tuple #[.pointer none, .int .i64 R.e])) ∨
         (R.e = 0 ∧ ∃ x vs, e = .returned (.tuple #[.pointer (some ⟨x, 0, none⟩), .int .i64 0]) ∧ w.heap.size ≤ x ∧ LgAt w' x 0 R.ep 0 R.pg [] g k m c R.d vs (.slice none 0 0) 0 ∧ OB w' w.heap.size vs snap)) := by
  have HSz := Lib.hid (size_any g k m c d w hd)
  have hpos := hd.ok.pos
  have hq0 : ((d.kept.length : Int) == 0) = false := by rw [beq_eq_false_iff_ne]; omega
  obtain ⟨R, hR⟩ : ∃ R, formatP d snap = R := ⟨_, rfl⟩
  have HR := Lib.hid hR
  have HSee := Lib.hid (fun (i : Int) W (hb : Below w.heap.size w W) => see_any g k m c d i W (hd.below hb))
  have HD := Lib.hid hd
  have HS := Lib.hid hs
  obtain ⟨N, hN⟩ : ∃ N, d.kept.length = N := ⟨_, rfl⟩
  rw [hN] at HSz hpos hq0
  have HN := Lib.hid hN
  clear hR hd hs hN
  by_cases h8 : N < 8
  · have h81 : decide ((N : Int) < 8) = true := decide_eq_true (by omega)
    have HR2 := Lib.hid (show R = ⟨1, d, 0, 0⟩ by rw [← HR.out]; unfold formatP; rw [HN.out, if_pos (.inl h8)])
    go_enter Try.func27, Try.ntmps27
    go_wp2_with (go_at_call 11; refine HSz.out.mono ?_; rintro e w' ⟨rfl, rfl⟩)
    go_returns
    refine ⟨R, HR.out, ?_⟩
    rw [HR2.out]
    exact ⟨HD.out, Only.refl _ _, .inl ⟨(fun h => by cases h), rfl⟩⟩
  · have h81 : decide ((N : Int) < 8) = false := decide_eq_false (by omega)
    by_cases hbg : 262144 < snap.length
    · have h82 : decide ((snap.length : Int) > 262144) = true := decide_eq_true (by omega)
      have h83 : decide ((262144 : Int) < (snap.length : Int)) = true := decide_eq_true (by omega)
      have HR2 := Lib.hid (show R = ⟨1, d, 0, 0⟩ by rw [← HR.out]; unfold formatP; rw [if_pos (.inr hbg)])
      go_enter Try.func27, Try.ntmps27
      go_wp2_with (go_at_call 11; refine HSz.out.mono ?_; rintro e w' ⟨rfl, rfl⟩)
      go_returns
      refine ⟨R, HR.out, ?_⟩
      rw [HR2.out]
      exact ⟨HD.out, Only.refl _ _, .inl ⟨(fun h => by cases h), rfl⟩⟩
    · have h82 : decide ((snap.length : Int) > 262144) = false := decide_eq_false (by omega)
      have h83 : decide ((262144 : Int) < (snap.length : Int)) = false := decide_eq_false (by omega)
      have HRd := Lib.hid (show R = if d.dead then ⟨9, d, 0, 0⟩ else layP 1 (d.topS 2) 1 d snap [] by rw [← HR.out]; unfold formatP; rw [HN.out, if_neg (by omega)])
      obtain ⟨T, hT⟩ : ∃ T : Nat → Nat, d.topS = T := ⟨_, rfl⟩
      have hT0 : T 0 = 0 := by rw [← hT]; rfl
      have hTs : ∀ n, T (n + 1) = max (T n) (d.sheet (n : Nat)).epoch := by intro n; rw [← hT]; rfl
      have hTl : ∀ n, T n < 4294967296 := by intro n; rw [← hT]; exact d.topS_lt n
      rw [hT] at HRd
      have hRE : ∀ i : Nat, i < 2 → d.readE (i : Int) = if d.dead then 9 else 0 := fun i hi => d.readE_in i (by rw [HN.out]; omega)
      have HTs := Lib.hid (⟨hT0, hTs, hTl, hRE⟩ : T 0 = 0 ∧ (∀ n, T (n + 1) = max (T n) (d.sheet (n : Nat)).epoch) ∧ (∀ n, T n < 4294967296) ∧ _)
      clear hT0 hTs hTl hT hRE
      go_enter Try.func27, Try.ntmps27
      go_wp2_with (go_at_call 11; refine HSz.out.mono ?_; rintro e w' ⟨rfl, rfl⟩)
      go_loopg [6, 24] 2 (fun r s6 s24 wr => ∃ j : Nat, j + r = 2 ∧ s24 = .int .i64 j ∧ s6 = .int .i64 (T j) ∧ Below w.heap.size w wr ∧ (0 < j → d.dead = false))
      case atStart => exact ⟨0, by omega, rfl, by rw [HTs.out.1]; rfl, Below.refl _ _, fun h => by omega⟩
      case round =>
        obtain ⟨j, hj, rfl, rfl, hb, hdd⟩ := hrel
        by_cases hjl : j < 2
        · have hj1 : decide ((j : Int) < 2) = true := decide_eq_true (by omega)
          have hj2 : (j : Int) < 2 := by omega
          have HS1 := Lib.hid (HSee.out (j : Nat) wr hb)
          have hre := HTs.out.2.2.2 j hjl
          have hTs := HTs.out.2.1 j
          have hTl := HTs.out.2.2.1 j
          rw [hre] at HS1
          have hse := d.sheet_epoch (j : Nat)
          obtain ⟨S, hS⟩ : ∃ S, d.sheet (j : Nat) = S := ⟨_, rfl⟩
          rw [hS] at HS1 hTs hse
          clear hS hre
          obtain ⟨p1, p2, bs, wh, tl⟩ := S
          unfold shv at HS1
          dsimp only at HS1 hTs hse
          have HTT := Lib.hid hTs
          have HB := Lib.hid hb
          clear hTs hb HSee
          cases hdead : d.dead with
          | true =>
            rw [hdead] at HRd HS1
            simp only [if_true] at HRd HS1
            go_wp2_with (go_at_call 53; refine HS1.out.mono ?_; rintro e w' ⟨v, rfl, ho, hb⟩; obtain ⟨A2, c2, rfl, -⟩ := OB.form ho)
            go_returns
            refine ⟨R, HR.out, ?_⟩
            rw [HRd.out]
            have hbE := (HB.out.trans (hb.mono HB.out.size)).alloc (Nat.le_trans HB.out.size hb.size) (.cells #[.int .i64 p1, .int .i64 p2, .slice A2 bs.length c2, .bool wh, .int .u32 tl] 97)
            exact ⟨HD.out.below hbE, .of_below hbE _, .inl ⟨(fun h => by cases h), rfl⟩⟩
          | false =>
            rw [hdead] at HS1
            simp only [Bool.false_eq_true, if_false] at HS1
            go_wp2_with (go_at_call 53; refine HS1.out.mono ?_; rintro e w' ⟨v, rfl, ho, hb⟩; obtain ⟨A2, c2, rfl, -⟩ := OB.form ho)
            go_roundg (2 - (j + 1))
            case measure => omega
            case rel => exact ⟨j + 1, by omega, by go_num, by rw [HTT.out]; congr 1; omega, (HB.out.trans (hb.mono HB.out.size)).alloc (Nat.le_trans HB.out.size hb.size) _, fun _ => hdead⟩
        · obtain rfl : j = 2 := by omega
          have hdf := hdd (by decide)
          have hTl := HTs.out.2.2.1 2
          obtain ⟨t, ht⟩ : ∃ t, T 2 = t := ⟨_, rfl⟩
          rw [ht] at HRd hTl ⊢
          rw [hdf, if_neg (by simp)] at HRd
          have HB := Lib.hid hb
          clear ht hb HTs HSee
          go_wp2_with fail
          have hbA := HB.out.alloc HB.out.size (.cells #[.int .i64 1, .int .i64 t, .int .i64 1, .int .i64 0, .slice none 0 0, .pointer (some ⟨g, 0, none⟩), .slice none 0 0, .slice none 0 0, .int .i64 0] 65)
          have hLC : LgC (wr.alloc (.cells #[.int .i64 1, .int .i64 t, .int .i64 1, .int .i64 0, .slice none 0 0, .pointer (some ⟨g, 0, none⟩), .slice none 0 0, .slice none 0 0, .int .i64 0] 65)) wr.heap.size 1 t 1 0 (.slice none 0 0) g (.slice none 0 0) (.slice none 0 0) 0 := ⟨heap_alloc_new _ _⟩
          have hal : (allP snap (([] : List RSl).map RSl.bs)).length ≤ 1073741824 := by
            have := framedP_le snap (by omega)
            simp only [allP, List.map_nil, List.flatMap_nil, List.append_nil]
            omega
          refine (lay_any wr.heap.size 1 t 1 0 _ g k m c d _ _ 0 As cs snap (.slice none 0 0) [] _ hLC (HD.out.below hbA) (by rw [HN.out]; omega) (by decide) (by decide) hTl (HS.out.below hbA) hAs hsc (by omega) ⟨RowFrom.nil _ _, by simp⟩ (by simp) hal).mono ?_
          rintro e w7 ⟨R2, hR2, hd7, ho7, hcase⟩
          obtain rfl : R2 = R := by rw [← hR2]; exact HRd.out.symm
          have hoE : Only w w7 [g, k, m] := (Only.of_below hbA _).trans ho7
          have HF := Lib.hid (⟨hd7, hoE⟩ : DkAt w7 g k m c R2.d ∧ Only w w7 [g, k, m])
          rcases hcase with ⟨hne, rfl⟩ | ⟨h0, x, vs, rfl, hx, hlg, hob⟩
          · have hz2 : ¬ ((R2.e : Int) = 0) := by omega
            have hz3 : ((R2.e : Int) == 0) = false := by rw [beq_eq_false_iff_ne]; omega
            clear hd7 ho7 hoE hR2 HRd hbA hLC
            go_wp2_with fail
            go_returns
            exact ⟨R2, HR.out, HF.out.1, HF.out.2, .inl ⟨hne, rfl⟩⟩
          · have HG := Lib.hid (⟨h0, Nat.le_trans hbA.size hx, hlg, own_mono_base hob hbA.size⟩ : R2.e = 0 ∧ w.heap.size ≤ x ∧ LgAt w7 x 0 R2.ep 0 R2.pg [] g k m c R2.d vs (.slice none 0 0) 0 ∧ OB w7 w.heap.size vs snap)
            clear hd7 ho7 hoE hR2 HRd hbA hLC h0 hlg hob
            go_wp2_with fail
            go_returns
            exact ⟨R2, HR.out, HF.out.1, HF.out.2, .inr ⟨HG.out.1, x, vs, rfl, HG.out.2.1, HG.out.2.2.1, HG.out.2.2.2⟩⟩
end Go.Proofs.Ytjfpanamkkdebaa
