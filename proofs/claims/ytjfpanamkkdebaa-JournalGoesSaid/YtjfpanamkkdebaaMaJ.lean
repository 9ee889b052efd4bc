/- A log made on a device.
   Where the newest log stands; its bytes.
   A stream's records; a log opened. -/
import Derived.Test.YtjfpanamkkdebaaMaI
import Derived.Lib.ConvBytes
import Derived.Lib.SmallJoins
namespace Go.Proofs.Ytjfpanamkkdebaa
open Go.RowKit
set_option linter.unusedVariables false
set_option linter.unusedSimpArgs false
/-- The greater epoch of the two slots. -/
def Dsk.topS (d : Dsk) : Nat → Nat
  | 0 => 0
  | n + 1 => max (d.topS n) (d.sheet (n : Nat)).epoch
theorem Dsk.topS_lt (d : Dsk) : ∀ n, d.topS n < 4294967296
  | 0 => by unfold Dsk.topS; decide
  | n + 1 => by
    have h1 := d.topS_lt n
    have h2 := d.sheet_epoch (n : Nat)
    unfold Dsk.topS
    omega
def formatP (d : Dsk) (snap : List UInt8) : Laid :=
  if d.kept.length < 8 ∨ 262144 < snap.length then ⟨1, d, 0, 0⟩ else if d.dead then ⟨9, d, 0, 0⟩ else layP 1 (d.topS 2) 1 d snap []
set_option maxHeartbeats 3200000 in
theorem format_any (g k m c : Nat) (d : Dsk) (As : Option Addr) (cs : Nat) (snap : List UInt8) (w : World) (hd : DkAt w g k m c d) (hs : RB w As snap) (hAs : As = none → cs = 0) (hsc : snap.length ≤ cs) (hm : snap.length ≤ 9223372036854775807) :
    Calls Try.prog 27 #[.pointer (some ⟨g, 0, none⟩), .slice As snap.length cs] w fun e w' =>
      ∃ R, formatP d snap = R ∧ DkAt w' g k m c R.d ∧ Only w w' [g, k, m] ∧
        ((R.e ≠ 0 ∧ e = .returned (.tuple #[.pointer none, .int .i64 R.e])) ∨
         (R.e = 0 ∧ ∃ x vs, e = .returned (.tuple #[.pointer (some ⟨x, 0, none⟩), .int .i64 0]) ∧ w.heap.size ≤ x ∧ LgAt w' x 0 R.ep 0 R.pg [] g k m c R.d vs (.slice none 0 0) 0 ∧ OB w' w.heap.size vs snap)) := by
  have HSz := Lib.hid (size_any g k m c d w hd)
  have hpos := hd.ok.pos
  have hq0 : ((d.kept.length : Int) == 0) = false := by rw [beq_eq_false_iff_ne]; omega
  obtain ⟨R, hR⟩ : ∃ R, formatP d snap = R := ⟨_, rfl⟩
  have HR := Lib.hid hR
  have HSee := Lib.hid (fun (i : Int) W (hb : Below w.heap.size w W) => see_any g k m c d i W (hd.below hb))
  have HD := Lib.hid hd
  have HS := Lib.hid hs
  obtain ⟨N, hN⟩ : ∃ N, d.kept.length = N := ⟨_, rfl⟩
  rw [hN] at HSz hpos hq0
  have HN := Lib.hid hN
  clear hR hd hs hN
  by_cases h8 : N < 8
  · have h81 : decide ((N : Int) < 8) = true := decide_eq_true (by omega)
    have HR2 := Lib.hid (show R = ⟨1, d, 0, 0⟩ by rw [← HR.out]; unfold formatP; rw [HN.out, if_pos (.inl h8)])
    go_enter Try.func27, Try.ntmps27
    go_wp2_with (go_at_call 11; refine HSz.out.mono ?_; rintro e w' ⟨rfl, rfl⟩)
    go_returns
    refine ⟨R, HR.out, ?_⟩
    rw [HR2.out]
    exact ⟨HD.out, Only.refl _ _, .inl ⟨(fun h => by cases h), rfl⟩⟩
  · have h81 : decide ((N : Int) < 8) = false := decide_eq_false (by omega)
    by_cases hbg : 262144 < snap.length
    · have h82 : decide ((snap.length : Int) > 262144) = true := decide_eq_true (by omega)
      have h83 : decide ((262144 : Int) < (snap.length : Int)) = true := decide_eq_true (by omega)
      have HR2 := Lib.hid (show R = ⟨1, d, 0, 0⟩ by rw [← HR.out]; unfold formatP; rw [if_pos (.inr hbg)])
      go_enter Try.func27, Try.ntmps27
      go_wp2_with (go_at_call 11; refine HSz.out.mono ?_; rintro e w' ⟨rfl, rfl⟩)
      go_returns
      refine ⟨R, HR.out, ?_⟩
      rw [HR2.out]
      exact ⟨HD.out, Only.refl _ _, .inl ⟨(fun h => by cases h), rfl⟩⟩
    · have h82 : decide ((snap.length : Int) > 262144) = false := decide_eq_false (by omega)
      have h83 : decide ((262144 : Int) < (snap.length : Int)) = false := decide_eq_false (by omega)
      have HRd := Lib.hid (show R = if d.dead then ⟨9, d, 0, 0⟩ else layP 1 (d.topS 2) 1 d snap [] by rw [← HR.out]; unfold formatP; rw [HN.out, if_neg (by omega)])
      obtain ⟨T, hT⟩ : ∃ T : Nat → Nat, d.topS = T := ⟨_, rfl⟩
      have hT0 : T 0 = 0 := by rw [← hT]; rfl
      have hTs : ∀ n, T (n + 1) = max (T n) (d.sheet (n : Nat)).epoch := by intro n; rw [← hT]; rfl
      have hTl : ∀ n, T n < 4294967296 := by intro n; rw [← hT]; exact d.topS_lt n
      rw [hT] at HRd
      have hRE : ∀ i : Nat, i < 2 → d.readE (i : Int) = if d.dead then 9 else 0 := fun i hi => d.readE_in i (by rw [HN.out]; omega)
      have HTs := Lib.hid (⟨hT0, hTs, hTl, hRE⟩ : T 0 = 0 ∧ (∀ n, T (n + 1) = max (T n) (d.sheet (n : Nat)).epoch) ∧ (∀ n, T n < 4294967296) ∧ _)
      clear hT0 hTs hTl hT hRE
      go_enter Try.func27, Try.ntmps27
      go_wp2_with (go_at_call 11; refine HSz.out.mono ?_; rintro e w' ⟨rfl, rfl⟩)
      go_loopg [6, 24] 2 (fun r s6 s24 wr => ∃ j : Nat, j + r = 2 ∧ s24 = .int .i64 j ∧ s6 = .int .i64 (T j) ∧ Below w.heap.size w wr ∧ (0 < j → d.dead = false))
      case atStart => exact ⟨0, by omega, rfl, by rw [HTs.out.1]; rfl, Below.refl _ _, fun h => by omega⟩
      case round =>
        obtain ⟨j, hj, rfl, rfl, hb, hdd⟩ := hrel
        by_cases hjl : j < 2
        · have hj1 : decide ((j : Int) < 2) = true := decide_eq_true (by omega)
          have hj2 : (j : Int) < 2 := by omega
          have HS1 := Lib.hid (HSee.out (j : Nat) wr hb)
          have hre := HTs.out.2.2.2 j hjl
          have hTs := HTs.out.2.1 j
          have hTl := HTs.out.2.2.1 j
          rw [hre] at HS1
          have hse := d.sheet_epoch (j : Nat)
          obtain ⟨S, hS⟩ : ∃ S, d.sheet (j : Nat) = S := ⟨_, rfl⟩
          rw [hS] at HS1 hTs hse
          clear hS hre
          obtain ⟨p1, p2, bs, wh, tl⟩ := S
          unfold shv at HS1
          dsimp only at HS1 hTs hse
          have HTT := Lib.hid hTs
          have HB := Lib.hid hb
          clear hTs hb HSee
          cases hdead : d.dead with
          | true =>
            rw [hdead] at HRd HS1
            simp only [if_true] at HRd HS1
            go_wp2_with (go_at_call 53; refine HS1.out.mono ?_; rintro e w' ⟨v, rfl, ho, hb⟩; obtain ⟨A2, c2, rfl, -⟩ := OB.form ho)
            go_returns
            refine ⟨R, HR.out, ?_⟩
            rw [HRd.out]
            have hbE := (HB.out.trans (hb.mono HB.out.size)).alloc (Nat.le_trans HB.out.size hb.size) (.cells #[.int .i64 p1, .int .i64 p2, .slice A2 bs.length c2, .bool wh, .int .u32 tl] 97)
            exact ⟨HD.out.below hbE, .of_below hbE _, .inl ⟨(fun h => by cases h), rfl⟩⟩
          | false =>
            rw [hdead] at HS1
            simp only [Bool.false_eq_true, if_false] at HS1
            go_wp2_with (go_at_call 53; refine HS1.out.mono ?_; rintro e w' ⟨v, rfl, ho, hb⟩; obtain ⟨A2, c2, rfl, -⟩ := OB.form ho)
            go_roundg (2 - (j + 1))
            case measure => omega
            case rel => exact ⟨j + 1, by omega, by go_num, by rw [HTT.out]; congr 1; omega, (HB.out.trans (hb.mono HB.out.size)).alloc (Nat.le_trans HB.out.size hb.size) _, fun _ => hdead⟩
        · obtain rfl : j = 2 := by omega
          have hdf := hdd (by decide)
          have hTl := HTs.out.2.2.1 2
          obtain ⟨t, ht⟩ : ∃ t, T 2 = t := ⟨_, rfl⟩
          rw [ht] at HRd hTl ⊢
          rw [hdf, if_neg (by simp)] at HRd
          have HB := Lib.hid hb
          clear ht hb HTs HSee
          go_wp2_with fail
          have hbA := HB.out.alloc HB.out.size (.cells #[.int .i64 1, .int .i64 t, .int .i64 1, .int .i64 0, .slice none 0 0, .pointer (some ⟨g, 0, none⟩), .slice none 0 0, .slice none 0 0, .int .i64 0] 65)
          have hLC : LgC (wr.alloc (.cells #[.int .i64 1, .int .i64 t, .int .i64 1, .int .i64 0, .slice none 0 0, .pointer (some ⟨g, 0, none⟩), .slice none 0 0, .slice none 0 0, .int .i64 0] 65)) wr.heap.size 1 t 1 0 (.slice none 0 0) g (.slice none 0 0) (.slice none 0 0) 0 := ⟨heap_alloc_new _ _⟩
          have hal : (allP snap (([] : List RSl).map RSl.bs)).length ≤ 1073741824 := by
            have := framedP_le snap (by omega)
            simp only [allP, List.map_nil, List.flatMap_nil, List.append_nil]
            omega
          refine (lay_any wr.heap.size 1 t 1 0 _ g k m c d _ _ 0 As cs snap (.slice none 0 0) [] _ hLC (HD.out.below hbA) (by rw [HN.out]; omega) (by decide) (by decide) hTl (HS.out.below hbA) hAs hsc (by omega) ⟨RowFrom.nil _ _, by simp⟩ (by simp) hal).mono ?_
          rintro e w7 ⟨R2, hR2, hd7, ho7, hcase⟩
          obtain rfl : R2 = R := by rw [← hR2]; exact HRd.out.symm
          have hoE : Only w w7 [g, k, m] := (Only.of_below hbA _).trans ho7
          have HF := Lib.hid (⟨hd7, hoE⟩ : DkAt w7 g k m c R2.d ∧ Only w w7 [g, k, m])
          rcases hcase with ⟨hne, rfl⟩ | ⟨h0, x, vs, rfl, hx, hlg, hob⟩
          · have hz2 : ¬ ((R2.e : Int) = 0) := by omega
            have hz3 : ((R2.e : Int) == 0) = false := by rw [beq_eq_false_iff_ne]; omega
            clear hd7 ho7 hoE hR2 HRd hbA hLC
            go_wp2_with fail
            go_returns
            exact ⟨R2, HR.out, HF.out.1, HF.out.2, .inl ⟨hne, rfl⟩⟩
          · have HG := Lib.hid (⟨h0, Nat.le_trans hbA.size hx, hlg, own_mono_base hob hbA.size⟩ : R2.e = 0 ∧ w.heap.size ≤ x ∧ LgAt w7 x 0 R2.ep 0 R2.pg [] g k m c R2.d vs (.slice none 0 0) 0 ∧ OB w7 w.heap.size vs snap)
            clear hd7 ho7 hoE hR2 HRd hbA hLC h0 hlg hob
            go_wp2_with fail
            go_returns
            exact ⟨R2, HR.out, HF.out.1, HF.out.2, .inr ⟨HG.out.1, x, vs, rfl, HG.out.2.1, HG.out.2.2.1, HG.out.2.2.2⟩⟩
end Go.Proofs.Ytjfpanamkkdebaa
namespace Go.Proofs.Ytjfpanamkkdebaa
open Go.RowKit
set_option linter.unusedVariables false
set_option linter.unusedSimpArgs false
structure Plc where
  hf : Nat
  ep : Nat
  sl : Nat
def Dsk.slotP (d : Dsk) (n : Nat) (p : Plc) : Plc :=
  if (d.sheet (n : Nat)).whole = true ∧ (d.sheet (n : Nat)).bytes.length = 1 ∧ ((d.sheet (n : Nat)).bytes.getD 0 0).toNat < 2 ∧ p.ep < (d.sheet (n : Nat)).epoch then ⟨((d.sheet (n : Nat)).bytes.getD 0 0).toNat, (d.sheet (n : Nat)).epoch, n⟩ else p
/-- The place that the first slots tell. -/
def Dsk.foundS (d : Dsk) : Nat → Plc
  | 0 => ⟨0, 0, 0⟩
  | n + 1 => d.slotP n (d.foundS n)
theorem Dsk.foundS_ok (d : Dsk) : ∀ n, (d.foundS n).hf ≤ 1 ∧ (d.foundS n).ep < 4294967296 ∧ ((d.foundS n).sl < n ∨ (d.foundS n).sl = 0)
  | 0 => by unfold Dsk.foundS; exact ⟨by decide, by decide, .inr rfl⟩
  | n + 1 => by
    have ih := d.foundS_ok n
    have he := d.sheet_epoch (n : Nat)
    unfold Dsk.foundS Dsk.slotP
    split
    · rename_i h
      exact ⟨by dsimp only; omega, he, .inl (by dsimp only; omega)⟩
    · exact ⟨ih.1, ih.2.1, by omega⟩
set_option maxRecDepth 100000 in
set_option maxHeartbeats 3200000 in
theorem found_any (g k m c : Nat) (d : Dsk) (w : World) (h : DkAt w g k m c d) (hn : 8 ≤ d.kept.length) (ha : d.dead = false) :
    Calls Try.prog 36 #[.pointer (some ⟨g, 0, none⟩)] w fun e w' =>
      e = .returned (.tuple #[.agg #[.int .i64 (d.foundS 2).hf, .int .i64 (d.foundS 2).ep, .int .i64 (d.foundS 2).sl], .bool (decide (0 < (d.foundS 2).ep))]) ∧ Below w.heap.size w w' := by
  have HSee := Lib.hid (fun (i : Int) W (hb : Below w.heap.size w W) => see_any g k m c d i W (h.below hb))
  have hRE : ∀ i : Nat, i < 2 → d.readE (i : Int) = 0 := fun i hi => by rw [d.readE_in i (by omega), ha]; rfl
  obtain ⟨T, hT⟩ : ∃ T : Nat → Plc, d.foundS = T := ⟨_, rfl⟩
  have hT0 : T 0 = ⟨0, 0, 0⟩ := by rw [← hT]; rfl
  have hTs : ∀ n, T (n + 1) = d.slotP n (T n) := by intro n; rw [← hT]; rfl
  have hTk : ∀ n, (T n).hf ≤ 1 ∧ (T n).ep < 4294967296 ∧ ((T n).sl < n ∨ (T n).sl = 0) := by intro n; rw [← hT]; exact d.foundS_ok n
  rw [hT]
  have HTs := Lib.hid (⟨hT0, hTs, hTk, hRE⟩ : T 0 = ⟨0, 0, 0⟩ ∧ (∀ n, T (n + 1) = d.slotP n (T n)) ∧ (∀ n, (T n).hf ≤ 1 ∧ (T n).ep < 4294967296 ∧ ((T n).sl < n ∨ (T n).sl = 0)) ∧ _)
  clear hT0 hTs hTk hT hRE h hn ha
  go_enter Try.func36, Try.ntmps36
  go_wp2_with fail
  have hb0 : Below w.heap.size w ((w.alloc (.cells #[.int .i64 0, .int .i64 0, .int .i64 0] 61)).alloc (.cells #[.int .i64 0, .int .i64 0, .int .i64 0] 61)) := ((Below.refl _ _).alloc (Nat.le_refl _) _).alloc (by simp) _
  have hz2 : ((w.alloc (.cells #[.int .i64 0, .int .i64 0, .int .i64 0] 61)).alloc (.cells #[.int .i64 0, .int .i64 0, .int .i64 0] 61)).heap[w.heap.size]? = some (.cells #[.int .i64 0, .int .i64 0, .int .i64 0] 61 (0, 0)) := blk_alloc (heap_alloc_new w _)
  have hz4 : ((w.alloc (.cells #[.int .i64 0, .int .i64 0, .int .i64 0] 61)).alloc (.cells #[.int .i64 0, .int .i64 0, .int .i64 0] 61)).heap[w.heap.size + 1]? = some (.cells #[.int .i64 0, .int .i64 0, .int .i64 0] 61 (0, 0)) := by
    have := heap_alloc_new (w.alloc (.cells #[.int .i64 0, .int .i64 0, .int .i64 0] 61)) (.cells #[.int .i64 0, .int .i64 0, .int .i64 0] 61)
    have e : (w.alloc (.cells #[.int .i64 0, .int .i64 0, .int .i64 0] 61)).heap.size = w.heap.size + 1 := by simp
    rw [e] at this
    exact this
  generalize (w.alloc (.cells #[.int .i64 0, .int .i64 0, .int .i64 0] 61)).alloc (.cells #[.int .i64 0, .int .i64 0, .int .i64 0] 61) = wB at *
  go_loopg [9] 2 (fun r s9 wr => ∃ j : Nat, j + r = 2 ∧ s9 = .int .i64 j ∧ Below w.heap.size w wr ∧ wr.heap[w.heap.size]? = some (.cells #[.int .i64 0, .int .i64 0, .int .i64 0] 61 (0, 0)) ∧ wr.heap[w.heap.size + 1]? = some (.cells #[.int .i64 (T j).hf, .int .i64 (T j).ep, .int .i64 (T j).sl] 61 (0, 0)))
  case atStart => exact ⟨0, by omega, rfl, hb0, hz2, by rw [HTs.out.1]; exact hz4⟩
  case round =>
    obtain ⟨j, hj, rfl, hb, hX2, hX4⟩ := hrel
    clear hb0 hz2 hz4
    by_cases hjl : j < 2
    · have hj1 : decide ((j : Int) < 2) = true := decide_eq_true (by omega)
      have hj2 : (j : Int) < 2 := by omega
      have HS1 := Lib.hid (HSee.out (j : Nat) wr hb)
      have hre := HTs.out.2.2.2 j hjl
      have hTs := HTs.out.2.1 j
      have hTk := HTs.out.2.2.1 j
      rw [hre] at HS1
      have hse := d.sheet_epoch (j : Nat)
      unfold Dsk.slotP at hTs
      obtain ⟨S, hS⟩ : ∃ S, d.sheet (j : Nat) = S := ⟨_, rfl⟩
      rw [hS] at HS1 hTs hse
      clear hS hre
      obtain ⟨p1, p2, bs, wh, tl⟩ := S
      obtain ⟨pj, hpj⟩ : ∃ p, T j = p := ⟨_, rfl⟩
      rw [hpj] at hTs hTk hX4
      clear hpj
      obtain ⟨ph, pe, ps⟩ := pj
      unfold shv at HS1
      dsimp only at HS1 hTs hse hTk hX4
      have HTT := Lib.hid hTs
      have HB := Lib.hid hb
      have l2 := blk_lt hX2
      have l4 := blk_lt hX4
      have HX := Lib.hid (⟨hX2, hX4⟩ : _ ∧ _)
      clear hTs hb HSee hX2 hX4
      go_wp2_with fail
      refine HS1.out.mono ?_
      rintro e w' ⟨v, rfl, ho, hb⟩
      obtain ⟨A2, c2, rfl, hc2, hA2⟩ := OB.form ho
      have hbC : Below wr.heap.size wr (w'.alloc (.cells #[.int .i64 p1, .int .i64 p2, .slice A2 bs.length c2, .bool wh, .int .u32 tl] 97)) := hb.alloc hb.size _
      have hx2 := (hbC.block w.heap.size l2).trans HX.out.1
      have hx4 := (hbC.block (w.heap.size + 1) l4).trans HX.out.2
      have hoC := OB.below ho ((Below.refl w'.heap.size w').alloc (Nat.le_refl _) (.cells #[.int .i64 p1, .int .i64 p2, .slice A2 bs.length c2, .bool wh, .int .u32 tl] 97))
      have q1 : (w'.alloc (.cells #[.int .i64 p1, .int .i64 p2, .slice A2 bs.length c2, .bool wh, .int .u32 tl] 97)).cell? ⟨w.heap.size + 1, 1, none⟩ = some (.int .i64 pe) := blk_cell hx4
      have hbE : Below w.heap.size w (w'.alloc (.cells #[.int .i64 p1, .int .i64 p2, .slice A2 bs.length c2, .bool wh, .int .u32 tl] 97)) := HB.out.trans (hbC.mono HB.out.size)
      have HE := Lib.hid (⟨hbE, hx2, hx4⟩ : _ ∧ _ ∧ _)
      clear hbE hx2 hx4 hb ho HB hbC HS1
      have done : ∀ W, Hid (Below w.heap.size w W ∧ W.heap[w.heap.size]? = some (.cells #[.int .i64 0, .int .i64 0, .int .i64 0] 61 (0, 0)) ∧ W.heap[w.heap.size + 1]? = some (.cells #[.int .i64 ph, .int .i64 pe, .int .i64 ps] 61 (0, 0))) → T (j + 1) = ⟨ph, pe, ps⟩ →
          ∃ j1 : Nat, j1 + (2 - (j + 1)) = 2 ∧ Value.int .i64 ((j : Int) + 1) = .int .i64 (j1 : Int) ∧ Below w.heap.size w W ∧ W.heap[w.heap.size]? = some (.cells #[.int .i64 0, .int .i64 0, .int .i64 0] 61 (0, 0)) ∧ W.heap[w.heap.size + 1]? = some (.cells #[.int .i64 (T j1).hf, .int .i64 (T j1).ep, .int .i64 (T j1).sl] 61 (0, 0)) :=
        fun W h e => ⟨j + 1, by omega, by push_cast; rfl, h.out.1, h.out.2.1, by rw [e]; exact h.out.2.2⟩
      have Done := Lib.hid done
      clear done
      cases wh with
      | false =>
        have HT2 := Lib.hid (show T (j + 1) = ⟨ph, pe, ps⟩ by rw [HTT.out, if_neg (by simp)])
        clear HTT
        go_wp2_with fail
        go_roundg (2 - (j + 1))
        case measure => omega
        case rel => exact Done.out _ HE HT2.out
      | true =>
        by_cases h1 : bs.length = 1
        · obtain ⟨b0, rfl⟩ := List.length_eq_one_iff.1 h1
          obtain ⟨g2, c3, eg, hg2, -⟩ := own_pos hoC (by simp)
          injection eg with e1 e2 e3
          subst e1 e3
          have hlt0 := b0.toNat_lt
          have hb0 : (w'.alloc (.cells #[.int .i64 p1, .int .i64 p2, .slice (some ⟨g2, 0, none⟩) 1 c2, .bool true, .int .u32 tl] 97)).cell? ⟨g2, 0, none⟩ = some (.int .u8 (b0.toNat : Int)) := hoC.cellAt 0 (by simp)
          have hgd : ([b0].getD 0 0) = b0 := rfl
          rw [hgd] at HTT
          have c1 : 1 ≤ c2 := hc2
          have HE : Hid (Below w.heap.size w (w'.alloc (.cells #[.int .i64 p1, .int .i64 p2, .slice (some ⟨g2, 0, none⟩) 1 c2, .bool true, .int .u32 tl] 97)) ∧ (w'.alloc (.cells #[.int .i64 p1, .int .i64 p2, .slice (some ⟨g2, 0, none⟩) 1 c2, .bool true, .int .u32 tl] 97)).heap[w.heap.size]? = some (.cells #[.int .i64 0, .int .i64 0, .int .i64 0] 61 (0, 0)) ∧ (w'.alloc (.cells #[.int .i64 p1, .int .i64 p2, .slice (some ⟨g2, 0, none⟩) 1 c2, .bool true, .int .u32 tl] 97)).heap[w.heap.size + 1]? = some (.cells #[.int .i64 ph, .int .i64 pe, .int .i64 ps] 61 (0, 0))) := HE
          have q1 : (w'.alloc (.cells #[.int .i64 p1, .int .i64 p2, .slice (some ⟨g2, 0, none⟩) 1 c2, .bool true, .int .u32 tl] 97)).cell? ⟨w.heap.size + 1, 1, none⟩ = some (.int .i64 pe) := q1
          simp only [List.length_singleton]
          generalize b0.toNat = b at *
          have hq0 : (0 : Int) < 1 := by decide
          clear hoC e2 hA2 hg2 h1
          rename_i q1' HE'
          clear q1'
          by_cases h2 : b < 2
          · have h2a : decide ((b : Int) < 2) = true := decide_eq_true (by omega)
            by_cases h3 : pe < p1
            · have h3a : decide ((p1 : Int) > (pe : Int)) = true := decide_eq_true (by omega)
              have h3b : decide ((pe : Int) < (p1 : Int)) = true := decide_eq_true (by omega)
              have HT2 := Lib.hid (show T (j + 1) = ⟨b, p1, j⟩ by rw [HTT.out, if_pos ⟨rfl, rfl, h2, h3⟩])
              have hbw : IntKind.i64.wrap (b : Int) = (b : Int) := by go_arith
              clear HTT
              go_wp2_with fail
              have hx6 := heap_alloc_new w' (.cells #[.int .i64 p1, .int .i64 p2, .slice (some ⟨g2, 0, none⟩) 1 c2, .bool true, .int .u32 tl] 97)
              have l4' := blk_lt HE.out.2.2
              have hne : w.heap.size + 1 < w'.heap.size := by
                simp at l4'
                rcases Nat.lt_or_ge (w.heap.size + 1) w'.heap.size with h | h
                · exact h
                · have e : w.heap.size + 1 = w'.heap.size := by omega
                  have h4 := HE.out.2.2
                  rw [e, hx6] at h4
                  injection h4 with h4
                  injection h4 with _ h4
                  cases h4
              have t0 : (w'.alloc (.cells #[.int .i64 p1, .int .i64 p2, .slice (some ⟨g2, 0, none⟩) 1 c2, .bool true, .int .u32 tl] 97)).cell? ⟨w'.heap.size, 0, none⟩ = some (.int .i64 p1) := blk_cell hx6
              have t2 : (w'.alloc (.cells #[.int .i64 p1, .int .i64 p2, .slice (some ⟨g2, 0, none⟩) 1 c2, .bool true, .int .u32 tl] 97)).cell? ⟨w'.heap.size, 2, none⟩ = some (.slice (some ⟨g2, 0, none⟩) 1 c2) := blk_cell hx6
              have q0 : (w'.alloc (.cells #[.int .i64 p1, .int .i64 p2, .slice (some ⟨g2, 0, none⟩) 1 c2, .bool true, .int .u32 tl] 97)).cell? ⟨w.heap.size + 1, 0, none⟩ = some (.int .i64 ph) := blk_cell HE.out.2.2
              have q2 : (w'.alloc (.cells #[.int .i64 p1, .int .i64 p2, .slice (some ⟨g2, 0, none⟩) 1 c2, .bool true, .int .u32 tl] 97)).cell? ⟨w.heap.size + 1, 2, none⟩ = some (.int .i64 ps) := blk_cell HE.out.2.2
              have f0 : (w'.alloc (.cells #[.int .i64 p1, .int .i64 p2, .slice (some ⟨g2, 0, none⟩) 1 c2, .bool true, .int .u32 tl] 97)).frozen? ⟨w.heap.size + 1, 0, none⟩ = false := blk_free HE.out.2.2
              have f1 : (w'.alloc (.cells #[.int .i64 p1, .int .i64 p2, .slice (some ⟨g2, 0, none⟩) 1 c2, .bool true, .int .u32 tl] 97)).frozen? ⟨w.heap.size + 1, 1, none⟩ = false := blk_free HE.out.2.2
              have f2 : (w'.alloc (.cells #[.int .i64 p1, .int .i64 p2, .slice (some ⟨g2, 0, none⟩) 1 c2, .bool true, .int .u32 tl] 97)).frozen? ⟨w.heap.size + 1, 2, none⟩ = false := blk_free HE.out.2.2
              generalize w'.alloc (.cells #[.int .i64 p1, .int .i64 p2, .slice (some ⟨g2, 0, none⟩) 1 c2, .bool true, .int .u32 tl] 97) = wC at *
              generalize w'.heap.size = X6 at *
              go_region
              all_goals go_wp2_with fail
              go_roundg (2 - (j + 1))
              case measure => omega
              case rel =>
                have hB := (((HE.out.1.setCell (p := ⟨w.heap.size + 1, 0, none⟩) (Nat.le_succ _) (.int .i64 b)).setCell (p := ⟨w.heap.size + 1, 1, none⟩) (Nat.le_succ _) (.int .i64 p1)).setCell (p := ⟨w.heap.size + 1, 2, none⟩) (Nat.le_succ _) (.int .i64 j)).drew
                have hg := Lib.grownBy_trans (Lib.grownBy_trans (Lib.grownBy_setCell wC (w.heap.size + 1) 0 (.int .i64 b)) (Lib.grownBy_setCell _ (w.heap.size + 1) 1 (.int .i64 p1))) (Lib.grownBy_setCell _ (w.heap.size + 1) 2 (.int .i64 j))
                have h2 := (hg.block w.heap.size (by omega) (by intro e; injection e with e; omega)).trans HE.out.2.1
                have h4 := heap_setCell_same _ _ 2 _ _ (.int .i64 j) (heap_setCell_same _ _ 1 _ _ (.int .i64 p1) (heap_setCell_same wC _ 0 _ _ (.int .i64 b) HE.out.2.2))
                exact ⟨j + 1, by omega, by go_num, hB, h2, by rw [HT2.out]; exact h4⟩
            · have h3a : decide ((p1 : Int) > (pe : Int)) = false := decide_eq_false (by omega)
              have h3b : decide ((pe : Int) < (p1 : Int)) = false := decide_eq_false (by omega)
              have HT2 := Lib.hid (show T (j + 1) = ⟨ph, pe, ps⟩ by rw [HTT.out, if_neg (by simp [h3])])
              clear HTT
              go_wp2_with fail
              go_roundg (2 - (j + 1))
              case measure => omega
              case rel => exact Done.out _ HE HT2.out
          · have h2a : decide ((b : Int) < 2) = false := decide_eq_false (by omega)
            have HT2 := Lib.hid (show T (j + 1) = ⟨ph, pe, ps⟩ by rw [HTT.out, if_neg (by simp [h2])])
            clear HTT
            go_wp2_with fail
            go_roundg (2 - (j + 1))
            case measure => omega
            case rel => exact Done.out _ HE HT2.out
        · have hq : ((bs.length : Int) == 1) = false := by rw [beq_eq_false_iff_ne]; omega
          have hq2 : ¬ ((bs.length : Int) = 1) := by omega
          have HT2 := Lib.hid (show T (j + 1) = ⟨ph, pe, ps⟩ by rw [HTT.out, if_neg (by simp [h1])])
          clear HTT
          go_wp2_with fail
          go_roundg (2 - (j + 1))
          case measure => omega
          case rel => exact Done.out _ HE HT2.out
    · obtain rfl : j = 2 := by omega
      have hj1 : decide (((2 : Nat) : Int) < 2) = false := by decide
      have hTk := HTs.out.2.2.1 2
      obtain ⟨p, hp⟩ : ∃ p, T 2 = p := ⟨_, rfl⟩
      rw [hp] at hX4 hTk
      have Hp := Lib.hid hp
      clear hp
      obtain ⟨ph, pe, ps⟩ := p
      dsimp only at hX4 hTk ⊢
      have q0 : wr.cell? ⟨w.heap.size + 1, 0, none⟩ = some (.int .i64 ph) := blk_cell hX4
      have q1 : wr.cell? ⟨w.heap.size + 1, 1, none⟩ = some (.int .i64 pe) := blk_cell hX4
      have q2 : wr.cell? ⟨w.heap.size + 1, 2, none⟩ = some (.int .i64 ps) := blk_cell hX4
      have r0 : wr.cell? ⟨w.heap.size, 0, none⟩ = some (.int .i64 0) := blk_cell hX2
      have r1 : wr.cell? ⟨w.heap.size, 1, none⟩ = some (.int .i64 0) := blk_cell hX2
      have r2 : wr.cell? ⟨w.heap.size, 2, none⟩ = some (.int .i64 0) := blk_cell hX2
      have f0 : wr.frozen? ⟨w.heap.size, 0, none⟩ = false := blk_free hX2
      have f1 : wr.frozen? ⟨w.heap.size, 1, none⟩ = false := blk_free hX2
      have f2 : wr.frozen? ⟨w.heap.size, 2, none⟩ = false := blk_free hX2
      clear HTs HSee
      go_wp2_with fail
      go_region
      go_wp2_with fail
      have hz5 := heap_setCell_same _ _ 2 _ _ (.int .i64 ps) (heap_setCell_same _ _ 1 _ _ (.int .i64 pe) (heap_setCell_same wr _ 0 _ _ (.int .i64 ph) hX2))
      refine bodyPost_ret (results_row_tmp rfl _ _ w.heap.size 61 _ (0, 0) _ (.bool (decide (0 < pe))) rfl rfl hz5 Try.underlying61 rfl (by kernel_rfl)) rfl ?_
      rw [Hp.out]
      exact ⟨rfl, (((hb.setCell (p := ⟨w.heap.size, 0, none⟩) (Nat.le_refl _) (.int .i64 ph)).setCell (p := ⟨w.heap.size, 1, none⟩) (Nat.le_refl _) (.int .i64 pe)).setCell (p := ⟨w.heap.size, 2, none⟩) (Nat.le_refl _) (.int .i64 ps)).drew⟩
/-- May a page of a half go on with its bytes? -/
def Dsk.goodAt (d : Dsk) (hf ep i : Nat) : Prop := (d.sheet (d.place hf i : Nat)).whole = true ∧ (d.sheet (d.place hf i : Nat)).epoch = ep ∧ (d.sheet (d.place hf i : Nat)).index = i
instance (d : Dsk) (hf ep i : Nat) : Decidable (d.goodAt hf ep i) := by unfold Dsk.goodAt; exact inferInstance
def Dsk.streamFrom (d : Dsk) (hf ep : Nat) : Nat → Nat → List UInt8
  | 0, _ => []
  | n + 1, i => if d.goodAt hf ep i then (d.sheet (d.place hf i : Nat)).bytes ++ d.streamFrom hf ep n (i + 1) else []
theorem Dsk.sheet_bytes (d : Dsk) (i : Int) : (d.sheet i).bytes.length ≤ 255 := by
  unfold Dsk.sheet
  split
  · unfold lookP
    dsimp only
    split
    · rw [List.length_take]
      have := ((pad (d.now i.toNat)).getD 10 0).toNat_lt
      omega
    · simp
  · simp
set_option maxRecDepth 100000 in
set_option maxHeartbeats 3200000 in
theorem stream_any (g k m c : Nat) (d : Dsk) (hf ep sl : Nat) (w : World) (h : DkAt w g k m c d) (hn : 8 ≤ d.kept.length) (ha : d.dead = false) (h1 : hf ≤ 1) (hep : ep < 4294967296) :
    Calls Try.prog 38 #[.pointer (some ⟨g, 0, none⟩), .agg #[.int .i64 hf, .int .i64 ep, .int .i64 sl]] w fun e w' =>
      ∃ v, e = .returned v ∧ OB w' w.heap.size v (d.streamFrom hf ep d.room 0) ∧ Below w.heap.size w w' := by
  have HRm := Lib.hid (fun W (hb : Below w.heap.size w W) => room_any g k m c d W (h.below hb))
  have HA := Lib.hid (fun i (hi : i ≤ 65536) W (hb : Below w.heap.size w W) => at_any g k m c d hf i W (h.below hb) h1 hi)
  have HSee := Lib.hid (fun (i : Int) W (hb : Below w.heap.size w W) => see_any g k m c d i W (h.below hb))
  have hrl := d.room_le h.ok.most
  have hRE : ∀ i, i < d.room → d.readE (d.place hf i : Nat) = 0 := fun i hi => by rw [d.readE_in _ (d.place_lt hf i hn h1 hi), ha]; rfl
  obtain ⟨all, hall⟩ : ∃ all, d.streamFrom hf ep d.room 0 = all := ⟨_, rfl⟩
  rw [hall]
  have HAll := Lib.hid hall
  have HRE := Lib.hid hRE
  have HDk := Lib.hid h
  obtain ⟨R, hR⟩ : ∃ R, d.room = R := ⟨_, rfl⟩
  rw [hR] at HRm HRE HAll hrl
  clear hall hRE h hn ha hR
  go_enter Try.func38, Try.ntmps38
  go_wp2_with fail
  have hb0 : Below w.heap.size w (w.alloc (.cells #[.int .i64 hf, .int .i64 ep, .int .i64 sl] 61)) := (Below.refl _ _).alloc (Nat.le_refl _) _
  have hz0 := heap_alloc_new w (.cells #[.int .i64 hf, .int .i64 ep, .int .i64 sl] 61)
  have hs0 : (w.alloc (.cells #[.int .i64 hf, .int .i64 ep, .int .i64 sl] 61)).heap.size = w.heap.size + 1 := by simp
  generalize w.alloc (.cells #[.int .i64 hf, .int .i64 ep, .int .i64 sl] 61) = wB at *
  refine (HRm.out wB hb0).mono ?_
  rintro e w' ⟨rfl, rfl⟩
  go_wp2_with fail
  go_loopg [5, 11] R (fun r s5 s11 wr => ∃ (j : Nat) (pre : List UInt8), j + r = R ∧ s11 = .int .i64 j ∧ OB wr (w.heap.size + 1) s5 pre ∧ pre ++ d.streamFrom hf ep r j = all ∧ pre.length ≤ 255 * j ∧ Below w.heap.size w wr ∧ wr.heap[w.heap.size]? = some (.cells #[.int .i64 hf, .int .i64 ep, .int .i64 sl] 61 (0, 0)))
  case atStart => exact ⟨0, [], by omega, rfl, World.ownsRow_nil _ _ _ _, HAll.out, by simp, hb0, hz0⟩
  case round =>
    obtain ⟨j, pre, hj, rfl, ho5, hall, hpl, hb, hX3⟩ := hrel
    obtain ⟨A5, c5, rfl, hc5, hA5⟩ := OB.form ho5
    clear hb0 hz0 hs0
    by_cases hjl : j < R
    · obtain ⟨n, rfl⟩ : ∃ n, gk = n + 1 := ⟨gk - 1, by omega⟩
      have hj1 : decide ((j : Int) < (R : Int)) = true := decide_eq_true (by omega)
      have hj2 : (j : Int) < (R : Int) := by omega
      have HA1 := Lib.hid (HA.out j (by omega) wr hb)
      have HS1 := Lib.hid (HSee.out (d.place hf j : Nat) wr hb)
      have hre := HRE.out j hjl
      have hsb := d.sheet_bytes (d.place hf j : Nat)
      have hse := d.sheet_epoch (d.place hf j : Nat)
      have ha1 : d.goodAt hf ep j → pre ++ ((d.sheet (d.place hf j : Nat)).bytes ++ d.streamFrom hf ep n (j + 1)) = all := fun h => by unfold Dsk.streamFrom at hall; rwa [if_pos h] at hall
      have ha2 : ¬ d.goodAt hf ep j → pre = all := fun h => by unfold Dsk.streamFrom at hall; rwa [if_neg h, List.append_nil] at hall
      clear hall
      unfold Dsk.goodAt at ha1 ha2
      rw [hre] at HS1
      generalize d.place hf j = pl at *
      obtain ⟨S, hS⟩ : ∃ S, d.sheet (pl : Nat) = S := ⟨_, rfl⟩
      rw [hS] at HS1 ha1 ha2 hsb hse
      clear hS hre
      obtain ⟨p1, p2, bs, wh, tl⟩ := S
      unfold shv at HS1
      dsimp only at HS1 ha1 ha2 hsb hse
      have HAl := Lib.hid (⟨ha1, ha2⟩ : _ ∧ _)
      have HB := Lib.hid hb
      have HO5 := Lib.hid ho5
      have lX := blk_lt hX3
      have HX := Lib.hid hX3
      have q0 : wr.cell? ⟨w.heap.size, 0, none⟩ = some (.int .i64 hf) := blk_cell hX3
      clear ha1 ha2 hb ho5 hX3 HA HSee
      go_wp2_with (go_at_call 61; refine HA1.out.mono ?_; rintro e w' ⟨rfl, rfl⟩)
      refine HS1.out.mono ?_
      rintro e w' ⟨v, rfl, ho, hb⟩
      obtain ⟨A2, c2, rfl, hc2, hA2⟩ := OB.form ho
      have hbC : Below wr.heap.size wr (w'.alloc (.cells #[.int .i64 p1, .int .i64 p2, .slice A2 bs.length c2, .bool wh, .int .u32 tl] 97)) := hb.alloc hb.size _
      have hx3 := (hbC.block w.heap.size lX).trans HX.out
      have hoC := OB.below ho ((Below.refl w'.heap.size w').alloc (Nat.le_refl _) (.cells #[.int .i64 p1, .int .i64 p2, .slice A2 bs.length c2, .bool wh, .int .u32 tl] 97))
      have ho5C := HO5.out.below hbC
      have q1 : (w'.alloc (.cells #[.int .i64 p1, .int .i64 p2, .slice A2 bs.length c2, .bool wh, .int .u32 tl] 97)).cell? ⟨w.heap.size, 1, none⟩ = some (.int .i64 ep) := blk_cell hx3
      have hbE : Below w.heap.size w (w'.alloc (.cells #[.int .i64 p1, .int .i64 p2, .slice A2 bs.length c2, .bool wh, .int .u32 tl] 97)) := HB.out.trans (hbC.mono HB.out.size)
      have HE := Lib.hid (⟨hbE, hx3, ho5C, hoC⟩ : _ ∧ _ ∧ _ ∧ _)
      clear hbE hx3 ho5C hoC hb ho HB hbC HS1 HA1 HO5
      cases wh with
      | false =>
        have HT2 := Lib.hid (HAl.out.2 (by simp))
        go_wp2_with fail
        go_ret
        obtain ⟨hbE, hx3, ho5C, hoC⟩ := HE.out
        rw [← HT2.out]
        exact ⟨_, rfl, ho5C.mono (Nat.le_succ _), hbE⟩
      | true =>
        by_cases h1 : p1 = ep
        · by_cases h2 : p2 = j
          · have hq : ((p1 : Int) != (ep : Int)) = false := by simp [h1]
            have hq2 : ((p2 : Int) != (j : Int)) = false := by simp [h2]
            have hq3 : ((p1 : Int) == (ep : Int)) = true := by simp [h1]
            have hq4 : ((p2 : Int) == (j : Int)) = true := by simp [h2]
            have HT2 := Lib.hid (show (pre ++ bs) ++ d.streamFrom hf ep n (j + 1) = all by rw [← HAl.out.1 ⟨rfl, h1, h2⟩, List.append_assoc])
            have HML : Hid (maxLen = 9223372036854775807) := rfl
            have HN := Lib.hid (⟨h1, h2⟩ : p1 = ep ∧ p2 = j)
            clear HAl h1 h2
            go_wp2_with (at_builtin; refine wpList_app _ rfl _ _ 29 rfl (w.heap.size + 1) 5 _ 1 1 Try.underlying29 info_u8 rfl (by decide) (.slice A5 pre.length c5) pre.length (pre.map vb) rfl HE.out.2.2.1 A2 bs.length c2 (bs.map vb) rfl (by simp) (RB.of_own HE.out.2.2.2) (vbs_one _) hA2 ?c6 ?c7 ?c8 ?_)
            case c6 => rw [HML.out]; omega
            case c7 => omega
            case c8 => exact blk_lt HE.out.2.1
            intro v5 w5 hown5 hg5 _
            obtain ⟨hbE, hx3, ho5C, hoC⟩ := HE.out
            have ho6 := (OB.mk hown5 (by simp) (by simp) : OB w5 (w.heap.size + 1) v5 (pre ++ bs))
            have hblk := World.ownsRow.lt ho5C
            have hbF := hbE.grown hg5 hbE.size (fun k hk => by have := (hblk k hk).1; omega)
            have hxF := (hg5.block w.heap.size (blk_lt hx3) (by intro e; have := (hblk _ e.symm).1; omega)).trans hx3
            have HF := Lib.hid (⟨ho6, hbF, hxF⟩ : _ ∧ _ ∧ _)
            clear ho6 hbF hxF hown5 hg5 hbE hx3 ho5C hoC HE hblk q1
            go_wp2_with fail
            go_roundg n
            case measure => omega
            case rel => exact ⟨j + 1, pre ++ bs, by omega, by go_num, HF.out.1, HT2.out, by rw [List.length_append]; omega, HF.out.2.1, HF.out.2.2⟩
          · have hq : ((p2 : Int) != (j : Int)) = true := by simp; omega
            have hq2 : ((p2 : Int) == (j : Int)) = false := by rw [beq_eq_false_iff_ne]; omega
            have hq3 : ¬ ((p2 : Int) = (j : Int)) := by omega
            have hq5 : ((p1 : Int) != (ep : Int)) = false := by simp [h1]
            have HN := Lib.hid h1
            have HT2 := Lib.hid (HAl.out.2 (by simp [h2]))
            clear HAl h1
            go_wp2_with fail
            go_ret
            obtain ⟨hbE, hx3, ho5C, hoC⟩ := HE.out
            rw [← HT2.out]
            exact ⟨_, rfl, ho5C.mono (Nat.le_succ _), hbE⟩
        · have hq : ((p1 : Int) != (ep : Int)) = true := by simp; omega
          have hq2 : ((p1 : Int) == (ep : Int)) = false := by rw [beq_eq_false_iff_ne]; omega
          have hq3 : ¬ ((p1 : Int) = (ep : Int)) := by omega
          have HT2 := Lib.hid (HAl.out.2 (by simp [h1]))
          clear HAl
          go_wp2_with fail
          go_ret
          obtain ⟨hbE, hx3, ho5C, hoC⟩ := HE.out
          rw [← HT2.out]
          exact ⟨_, rfl, ho5C.mono (Nat.le_succ _), hbE⟩
    · obtain rfl : j = R := by omega
      obtain rfl : gk = 0 := by omega
      have hj1 : decide ((j : Int) < (j : Int)) = false := decide_eq_false (by omega)
      have HT2 := Lib.hid (show pre = all by rw [← hall]; unfold Dsk.streamFrom; rw [List.append_nil])
      clear hall HAll
      go_wp2_with fail
      go_ret
      rw [← HT2.out]
      exact ⟨_, rfl, ho5.mono (Nat.le_succ _), hb⟩
end Go.Proofs.Ytjfpanamkkdebaa
namespace Go.Proofs.Ytjfpanamkkdebaa
open Go.RowKit
set_option linter.unusedVariables false
set_option linter.unusedSimpArgs false
set_option maxHeartbeats 1600000 in
theorem stextB (g : Nat) (o : Option (List UInt8)) (w : World) (h : RdS w g o) (hl : OLen o) :
    Calls Try.prog 58 #[.pointer (some ⟨g, 0, none⟩), .int .i64 262148] w fun e w' => e = .returned (.string (str (textS 262148 o).1)) ∧ RdS w' g (textS 262148 o).2 ∧ w.grownBy w' (some g) := by
  have HN := Lib.hid (snum g 262148 o w h hl)
  have hol := numS_len (most := 262148) hl
  have hle : (numS 262148 o).1 ≤ 262148 := by
    cases o with
    | none => simp [numS]
    | some bs =>
      cases hn : numP 262148 bs with
      | ok x r => rw [numS_ok hn]; have := (numP_ok hn).2.1; simp only; omega
      | no e => rw [numS_no hn]; simp
  have HTe := Lib.hid (show textS 262148 o = match numS 262148 o with | (_, none) => ([], none) | (n, some r) => if r.length < n then ([], none) else (r.take n, some (r.drop n)) from rfl)
  cases hn : numS 262148 o with
  | mk n o1 =>
    rw [hn] at HN HTe hol hle
    simp only at HN HTe hol hle
    clear h hl hn
    cases o1 with
    | none =>
      have HT2 : Hid (textS 262148 o = ([], none)) := HTe.out
      clear HTe
      go_enter Try.func58, Try.ntmps58
      go_wp2_with (first
        | (go_at_call 73; refine HN.out.mono ?_; rintro e w1 ⟨rfl, ⟨c, hr1⟩, hg1⟩
           have HTk := Lib.hid (take_no g c (n : Int) w1 hr1)
           have kc := RB.str (P := Try.prog) (w := w1) (src := 29) (dst := 9) Try.underlying29 Try.underlying5 Try.underlying9 (A := none) (bs := []) (fun k v hk => by simp at hk) 0 0 rfl)
        | (go_at_call 72; refine HTk.out.mono ?_; rintro e w2 ⟨rfl, rfl⟩))
      go_returns
      rw [HT2.out]
      exact ⟨rfl, ⟨c, hr1⟩, hg1⟩
    | some r =>
      have hrl := hol r rfl
      by_cases hlt : r.length < n
      · have HT2 : Hid (textS 262148 o = ([], none)) := by show _ = _; rw [HTe.out]; simp [hlt]
        clear HTe
        go_enter Try.func58, Try.ntmps58
        go_wp2_with (first
          | (go_at_call 73; refine HN.out.mono ?_; rintro e w1 ⟨rfl, hr1, hg1⟩
             have HTk := Lib.hid (take_short g n r w1 hr1 hlt (by omega)))
          | (go_at_call 72; refine HTk.out.mono ?_; rintro e w2 ⟨rfl, hr2, hg2⟩
             have kc := RB.str (P := Try.prog) (w := w2) (src := 29) (dst := 9) Try.underlying29 Try.underlying5 Try.underlying9 (A := none) (bs := []) (fun k v hk => by simp at hk) 0 0 rfl))
        go_returns
        rw [HT2.out]
        exact ⟨rfl, ⟨4, hr2⟩, Lib.grownBy_trans hg1 hg2⟩
      · have HT2 : Hid (textS 262148 o = (r.take n, some (r.drop n))) := by show _ = _; rw [HTe.out]; simp [hlt]
        clear HTe
        go_enter Try.func58, Try.ntmps58
        go_wp2_with (first
          | (go_at_call 73; refine HN.out.mono ?_; rintro e w1 ⟨rfl, hr1, hg1⟩
             have HTk := Lib.hid (take_ok g n r w1 hr1 (by omega) (by omega)))
          | (go_at_call 72; refine HTk.out.mono ?_; rintro e w2 ⟨A2, rfl, hb2, hA2, hr2, hg2⟩
             have kc := RB.str (P := Try.prog) (w := w2) (src := 29) (dst := 9) Try.underlying29 Try.underlying5 Try.underlying9 hb2 n n (by rw [List.length_take]; omega)))
        go_returns
        rw [HT2.out]
        exact ⟨rfl, hr2, Lib.grownBy_trans hg1 hg2⟩
theorem rb_bytes (w : World) (s : ByteArray) : RB (Lib.bytesWorld w 5 s) (some ⟨w.heap.size, 0, none⟩) s.data.toList := by
  intro k v hk
  refine ⟨_, rfl, ?_⟩
  have hks : k < s.size := by
    rcases Nat.lt_or_ge k s.size with h | h
    · exact h
    · rw [List.getElem?_eq_none (by simpa using h)] at hk; cases hk
  rw [Addr.add_lit, Nat.zero_add, Lib.bytesWorld_cell w _ s k hks]
  rw [List.getElem?_map] at hk
  have hg : s.data.toList[k]? = some (s.data.toList.getD k 0) := by
    rw [List.getD_eq_getElem?_getD, List.getElem?_eq_getElem (by rw [Array.length_toList]; exact hks)]; rfl
  rw [hg] at hk
  simp only [Option.map_some, Option.some.injEq] at hk
  rw [← hk]; rfl
/-- The records of bytes, as far as they are whole. -/
def partsP : Nat → List UInt8 → List (List UInt8)
  | 0, _ => []
  | f + 1, bs =>
    if bs.length = 0 then []
    else match (textS 262148 (some bs)).2 with
      | none => []
      | some r => if (opened (textS 262148 (some bs)).1).2 = 0 then (opened (textS 262148 (some bs)).1).1 :: partsP f r else []
theorem rawP_shorter {bs r : List UInt8} {x : Nat} (h : rawP bs = .ok x r) : r.length < bs.length := by
  cases bs with
  | nil => cases h
  | cons b bs =>
    rw [rawP_cons] at h
    split at h
    · cases h
    · split at h
      · injection h with _ h
        subst h
        rw [List.length_drop, List.length_cons]
        omega
      · cases h
theorem numP_shorter {most : Int} {bs r : List UInt8} {x : Nat} (h : numP most bs = .ok x r) : r.length < bs.length := by
  unfold numP at h
  split at h
  · rename_i y s hy
    split at h
    · cases h
    · injection h with _ h
      subst h
      exact rawP_shorter hy
  · cases h
theorem textS_some {bs r : List UInt8} (h : (textS 262148 (some bs)).2 = some r) : r.length < bs.length ∧ (textS 262148 (some bs)).1.length ≤ 262148 := by
  unfold textS at h ⊢
  cases hn : numP 262148 bs with
  | no e => rw [numS_no hn] at h; cases h
  | ok x q =>
    rw [numS_ok hn] at h ⊢
    dsimp only at h ⊢
    have hx := (numP_ok hn).2.1
    have hq := numP_shorter hn
    split at h
    · cases h
    · rename_i hlt
      rw [if_neg hlt]
      injection h with h
      subst h
      rw [List.length_drop, List.length_take]
      omega
theorem textS_none {bs : List UInt8} (h : (textS 262148 (some bs)).2 = none) : (textS 262148 (some bs)).1 = [] := by
  unfold textS at h ⊢
  cases hn : numP 262148 bs with
  | no e => rw [numS_no hn]
  | ok x q =>
    rw [numS_ok hn] at h ⊢
    dsimp only at h ⊢
    split at h
    · rename_i hlt; rw [if_pos hlt]
    · cases h
theorem own_grown {w : World} {base : Nat} {e : TypeId} {size n : Nat} {v : Value} {xs : List Value} {w' : World} {r : Nat} (h : w.ownsRow base e size v n xs) (hg : w.grownBy w' (some r)) (hr : v.ownBlock ≠ some r) : w'.ownsRow base e size v n xs :=
  World.ownsRow.kept (row := some r) h hg (by
    cases q : v.ownBlock with
    | none => exact .inl rfl
    | some k => exact .inr (fun e2 => hr (by rw [q, e2])))
theorem own_kept2 {w : World} {base : Nat} {e : TypeId} {size n : Nat} {v : Value} {xs : List Value} {w' : World} {row : Option Nat} (h : w.ownsRow base e size v n xs) (hg : w.grownBy w' row) (hr : ∀ j, v.ownBlock = some j → row ≠ some j) : w'.ownsRow base e size v n xs :=
  World.ownsRow.kept (row := row) h hg (by
    cases q : v.ownBlock with
    | none => exact .inl rfl
    | some k => exact .inr (fun e2 => hr k q e2.symm))
theorem RdOk.later {w w' : World} {g : Nat} {bs : List UInt8} {row : Option Nat} (h : RdOk w g bs) (hg : w.grownBy w' row) (hr : ∀ j, row = some j → g < j) : RdOk w' g bs := by
  obtain ⟨A, c, h⟩ := h
  refine ⟨A, c, by rw [hg.block g h.lt (fun e => by have := hr g e.symm; omega)]; exact h.cells, fun j v hj => ?_, h.cap0, h.cap, h.block⟩
  obtain ⟨a, ha, hc⟩ := h.bytes j v hj
  refine ⟨a, ha, ?_⟩
  refine hg.cell hc (fun e => ?_)
  have h1 := hr _ e.symm
  have h2 := h.block a ha
  have h3 := add_blk a j
  omega
theorem info_bs : (Try.prog.info? 29).map (fun i => (i.zero, i.size, i.bytes)) = some (some (.slice none 0 0), 1, 24) := by kernel_rfl
theorem opened_le (bs : List UInt8) : (opened bs).1.length ≤ bs.length := by
  unfold opened
  split
  · simp
  · split
    · simp
    · simp
set_option maxRecDepth 100000 in
set_option maxHeartbeats 3200000 in
theorem parts_any (A : Option Addr) (c : Nat) (b : List UInt8) (w : World) (hm : b.length ≤ 1073741824) (hA : A = none → c = 0) (hr : RB w A b) :
    Calls Try.prog 37 #[.slice A b.length c] w fun e w' =>
      ∃ (v : Value) (rs : List RSl), e = .returned v ∧ w'.ownsRow w.heap.size 29 1 v rs.length (rs.map RSl.v) ∧ (∀ r ∈ rs, OB w' w.heap.size r.v r.bs) ∧ rs.map RSl.bs = partsP b.length b ∧ Below w.heap.size w w' := by
  obtain ⟨all, hall⟩ : ∃ all, partsP b.length b = all := ⟨_, rfl⟩
  rw [hall]
  have HAll := Lib.hid hall
  have HRd := Lib.hid (readok A c b w (by omega) hA hr)
  clear hall hr
  go_enter Try.func37, Try.ntmps37
  go_wp2_with fail
  refine HRd.out.mono ?_
  rintro e w0 ⟨g, rfl, hrd, hg0, hb0⟩
  go_wp2_with fail
  go_loopg [3] b.length (fun r s3 wr => ∃ (o : List UInt8) (rs : List RSl), RdOk wr g o ∧ o.length ≤ r ∧ o.length ≤ b.length ∧ wr.ownsRow (g + 1) 29 1 s3 rs.length (rs.map RSl.v) ∧ (∀ q ∈ rs, OB wr (g + 1) q.v q.bs) ∧ rs.length + o.length ≤ b.length ∧ rs.map RSl.bs ++ partsP r o = all ∧ Below w.heap.size w wr)
  case atStart => exact ⟨b, [], hrd, Nat.le_refl _, Nat.le_refl _, World.ownsRow_nil _ _ _ _, by simp, by simp, HAll.out, hb0⟩
  case round =>
    obtain ⟨o, rs, hrd, hol, hob, hown, hok, hcnt, hpt, hb⟩ := hrel
    clear hb0
    have HL := Lib.hid (rleftok g o wr hrd)
    obtain ⟨n, hn⟩ : ∃ n, rs.length = n := ⟨_, rfl⟩
    rw [hn] at hown hcnt
    obtain ⟨Av, cv, rfl, -⟩ := own_form hown
    by_cases ho0 : o.length = 0
    · have hq : decide ((o.length : Int) > 0) = false := decide_eq_false (by omega)
      have hq2 : decide (0 < o.length) = false := decide_eq_false (by omega)
      have HT2 := Lib.hid (show rs.map RSl.bs = all by
        rw [← hpt]
        cases gk with
        | zero => unfold partsP; rw [List.append_nil]
        | succ k => unfold partsP; rw [if_pos ho0, List.append_nil])
      have HN := Lib.hid hn
      clear hpt hn
      go_wp2_with (go_at_call 57; refine HL.out.mono ?_; rintro e w' ⟨rfl, rfl⟩)
      go_ret
      refine ⟨_, rs, rfl, ?_, fun q hq => (hok q hq).mono (by omega), HT2.out, hb⟩
      rw [HN.out]
      exact own_mono_base hown (by omega)
    · have hq : decide ((o.length : Int) > 0) = true := decide_eq_true (by omega)
      have hq2 : decide (0 < o.length) = true := decide_eq_true (by omega)
      obtain ⟨k, rfl⟩ : ∃ k, gk = k + 1 := ⟨gk - 1, by omega⟩
      have hOL : OLen (some o) := fun q hq => by injection hq with hq; subst hq; omega
      have HTx := Lib.hid (stextB g (some o) wr hrd hOL)
      have hol2 := textS_len (most := 262148) hOL
      have hsome := @textS_some o
      unfold partsP at hpt
      rw [if_neg ho0] at hpt
      obtain ⟨T, hT⟩ : ∃ T, textS 262148 (some o) = T := ⟨_, rfl⟩
      rw [hT] at HTx hol2 hpt hsome
      obtain ⟨s, oo⟩ := T
      dsimp only at HTx hol2 hpt hsome
      have kc := fun (w : World) => Lib.run_convert_string_bytes (P := Try.prog) w 9 29 5 (str s) Try.underlying9 Try.underlying29 Try.underlying5
      have hszT : (str s).size = s.length := str_size s
      have hbyT : (str s).data.toList = s := str_toList s
      have HSz := Lib.hid hszT
      have HBy := Lib.hid hbyT
      have hsl : s.length ≤ 262148 := by
        cases oo with
        | none => 
          have : s = [] := by
            have h := textS_none (bs := o) (by rw [hT])
            rw [hT] at h
            exact h
          rw [this]; decide
        | some r => exact (hsome rfl).2
      have HT := Lib.hid hT
      clear hszT hbyT hT
      go_wp2_with (go_at_call 57; refine HL.out.mono ?_; rintro e w' ⟨rfl, rfl⟩)
      refine HTx.out.mono ?_
      rintro e4 w4 ⟨rfl, hr4, hg4⟩
      have hbY := Joins.below_bytesWorld w4.heap.size w4 5 (str s) (Nat.le_refl _)
      have hRB := rb_bytes w4 (str s)
      rw [HBy.out] at hRB
      have hgs := hrd.lt
      have hown4 := own_grown hown hg4 (fun e => by have := (World.ownsRow.lt hown g e).1; omega)
      have hok4 : ∀ q ∈ rs, OB w4 (g + 1) q.v q.bs := fun q hq => own_grown (hok q hq) hg4 (fun e => by have := (World.ownsRow.lt (hok q hq) g e).1; omega)
      have hb4 : Below w.heap.size w w4 := hb.grown hg4 hb.size (fun k hk => by injection hk with hk; omega)
      have HOp := fopen_any (some ⟨w4.heap.size, 0, none⟩) (grownCap w4 (str s).size 0 5) s _ (by omega) (by rw [← HSz.out]; exact grownCap_ge w4 _ _ _) (by simp) hRB
      rw [← HSz.out] at HOp
      obtain ⟨OP, hOP⟩ : ∃ OP, opened s = OP := ⟨_, rfl⟩
      have hopl := opened_le s
      rw [hOP] at HOp hopl
      simp only [hOP] at hpt
      obtain ⟨x, ox⟩ := OP
      dsimp only at HOp hopl hpt
      have HOp := Lib.hid HOp
      have HQ := Lib.hid (⟨hown4, hok4, hb4, hr4⟩ : _ ∧ _ ∧ _ ∧ _)
      have HG4 := Lib.hid (⟨hown, hok, hrd, hb⟩ : _ ∧ _ ∧ _ ∧ _)
      clear hown4 hok4 hb4 hr4 hown hok hrd hb hRB HTx HL
      have hpN : n + 1 ≤ 1073741825 := by omega
      go_wp2_with fail
      refine HOp.out.mono ?_
      rintro e5 w5 ⟨v5, rfl, ho5, hb5⟩
      obtain ⟨A5, c5, rfl, hl5, hA5⟩ := OB.form ho5
      have hbE := hbY.trans (hb5.mono hbY.size)
      have HEr := Lib.hid (serr g oo w5 (RdS.below (o := oo) HQ.out.2.2.2 hbE))
      have hgw4 := Nat.lt_of_lt_of_le hgs hg4.size
      have HO5 := Lib.hid (OB.mono ho5 (show g + 1 ≤ _ from Nat.le_trans hgw4 hbY.size))
      have HBE := Lib.hid hbE
      clear ho5 hbE hb5 hbY HOp
      go_wp2_with fail
      refine HEr.out.mono ?_
      rintro e6 w6 ⟨ec, rfl, hec0, hec1, rfl⟩
      have hbQ : Below w.heap.size w w5 := HQ.out.2.2.1.trans (HBE.out.mono HQ.out.2.2.1.size)
      have hownQ := OS_below HQ.out.1 HBE.out
      have hokQ : ∀ q ∈ rs, OB w5 (g + 1) q.v q.bs := fun q hq => (HQ.out.2.1 q hq).below HBE.out
      cases oo with
      | none =>
        have hec := hec1 rfl
        have hz2 : ¬ ((ec : Int) = 0) := by omega
        have hz3 : ((ec : Int) == 0) = false := by rw [beq_eq_false_iff_ne]; omega
        have HT2 := Lib.hid (show rs.map RSl.bs = all by rw [← hpt, List.append_nil])
        have HN := Lib.hid hn
        have HF := Lib.hid (⟨hbQ, hownQ, hokQ⟩ : _ ∧ _ ∧ _)
        clear hpt hn hec0 hec1 hbQ hownQ hokQ HQ HG4 HEr
        go_wp2_with fail
        go_ret
        refine ⟨_, rs, rfl, ?_, fun q hq => (HF.out.2.2 q hq).mono (by omega), HT2.out, HF.out.1⟩
        rw [HN.out]
        exact own_mono_base HF.out.2.1 (by omega)
      | some r =>
        obtain rfl : ec = 0 := hec0 rfl
        dsimp only at hpt
        have hrd5 : RdOk w5 g r := RdS.below (o := some r) HQ.out.2.2.2 HBE.out
        by_cases hx : ox = 0
        · subst hx
          have hrl := (hsome rfl).1
          have HT2 := Lib.hid (show (rs ++ [(⟨A5, c5, x⟩ : RSl)]).map RSl.bs ++ partsP k r = all by
            rw [← hpt, if_pos rfl, List.map_append, List.append_assoc]; rfl)
          have HN := Lib.hid hn
          have hwl := HBE.out.size
          have hgw := hrd5.lt
          have HF := Lib.hid (⟨hbQ, hownQ, hokQ, hrd5⟩ : _ ∧ _ ∧ _ ∧ _)
          have HML : Hid (maxLen = 9223372036854775807) := rfl
          have hal5 : Below w5.heap.size w5 (w5.alloc (.cells #[.slice A5 x.length c5] 29)) := (Below.refl _ _).alloc (Nat.le_refl _) _
          have HA5l := Lib.hid hal5
          clear hpt hn hec0 hec1 hbQ hownQ hokQ HQ HG4 HEr hal5 hrd5
          go_wp2_with (at_builtin; refine wpList_one rfl _ _ 22 rfl (g + 1) 29 _ 24 Try.underlying22 info_bs rfl (.slice Av n cv) n (rs.map RSl.v) rfl (OS_below HF.out.2.1 HA5l.out) _ (.slice A5 x.length c5) rfl (tmp_here _ _ _) rfl ?c6 ?c7 ?c8 ?_)
          case c6 => rw [HML.out]; omega
          case c7 => omega
          case c8 => have := HA5l.out.size; omega
          intro g6 cap6 w6 hown6 hg6 hor hlt6
          have hownA := OS_below HF.out.2.1 HA5l.out
          have hrow : ∀ j, (Value.slice Av n cv).ownBlock = some j → g + 1 ≤ j ∧ ∃ cs, (w5.alloc (.cells #[.slice A5 x.length c5] 29)).heap[j]? = some (.cells cs 29 (0, 0)) := fun j hj => ⟨(World.ownsRow.lt hownA j hj).1, own_blk hownA j hj⟩
          have hokA : ∀ (v : Value) (b2 : List UInt8) (B : Nat), OB w5 B v b2 → OB w6 B v b2 := fun v b2 B h => by
            have hA := OB.below h HA5l.out
            refine own_kept2 hA hg6 (fun j hj e => ?_)
            obtain ⟨_, cs, hc⟩ := hrow j e
            obtain ⟨cs2, hc2⟩ := own_blk hA j hj
            rw [hc] at hc2
            injection hc2 with hc2
            injection hc2 with _ hc2
            exact absurd hc2 (by decide)
          have hbF : Below w.heap.size w w6 := (HF.out.1.trans (HA5l.out.mono HF.out.1.size)).grown hg6 (Nat.le_trans HF.out.1.size HA5l.out.size) (fun j hj => by have := (hrow j hj).1; omega)
          have hrdF : RdOk w6 g r := by
            have h1 : RdS (w5.alloc (.cells #[.slice A5 x.length c5] 29)) g (some r) := RdS.below (o := some r) HF.out.2.2.2 HA5l.out
            exact RdOk.later h1 hg6 (fun j hj => by have := (hrow j hj).1; omega)
          have HFF := Lib.hid (⟨hbF, hrdF, hown6, (fun q hq => hokA _ _ _ (HF.out.2.2.1 q hq) : ∀ q ∈ rs, OB w6 (g + 1) q.v q.bs), hokA _ _ _ HO5.out⟩ : _ ∧ _ ∧ _ ∧ _ ∧ _)
          clear hbF hrdF hown6 hokA hrow hownA hg6 HF
          go_wp2_with fail
          go_roundg k
          case measure => omega
          case rel =>
            obtain ⟨k1, k2, k3, k4, k5⟩ := HFF.out
            refine ⟨r, rs ++ [(⟨A5, c5, x⟩ : RSl)], k2, by omega, by omega, ?_, ?_, by rw [List.length_append, HN.out, List.length_singleton]; omega, HT2.out, k1⟩
            · rw [List.length_append, HN.out, List.length_singleton, List.map_append]
              exact k3
            · intro q hq
              rcases List.mem_append.1 hq with hq | hq
              · exact k4 q hq
              · rw [List.mem_singleton.1 hq]
                exact k5
        · have hz2 : ¬ ((ox : Int) = 0) := by omega
          have hz3 : ((ox : Int) == 0) = false := by rw [beq_eq_false_iff_ne]; omega
          have HT2 := Lib.hid (show rs.map RSl.bs = all by rw [← hpt, if_neg hx, List.append_nil])
          have HN := Lib.hid hn
          have HF := Lib.hid (⟨hbQ, hownQ, hokQ⟩ : _ ∧ _ ∧ _)
          clear hpt hn hec0 hec1 hbQ hownQ hokQ HQ HG4 HEr
          go_wp2_with fail
          go_ret
          refine ⟨_, rs, rfl, ?_, fun q hq => (HF.out.2.2 q hq).mono (by omega), HT2.out, HF.out.1⟩
          rw [HN.out]
          exact own_mono_base HF.out.2.1 (by omega)
end Go.Proofs.Ytjfpanamkkdebaa
