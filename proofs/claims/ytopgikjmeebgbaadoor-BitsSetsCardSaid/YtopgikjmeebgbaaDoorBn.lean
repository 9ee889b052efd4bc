/- The walks of the laws of sets and of ranks. -/
import Derived.Test.YtopgikjmeebgbaaDoorBm
namespace Go.Proofs.YtopgikjmeebgbaaDoor
open Go.RowKit
set_option linter.unusedVariables false
set_option linter.unusedSimpArgs false
set_option maxHeartbeats 1600000 in
theorem bitsSets_walk (n : Int) (A : Option Addr) (c : Nat) (l : List (Int × Int)) (i : Int) (w : World) (_hn : (Lit.int .i64 n).wf = true) (hr : Lies w A (l.flatMap dc)) (hA : A = none → c = 0) (hlc : l.length ≤ c) (hm : l.length ≤ 9223372036854775807) (_hi : (Lit.int .i64 i).wf = true) (hT : Tab w) :
    Calls Tryd.prog 5 #[.int .i64 n, .slice A l.length c, .int .i64 i] w fun e w' => e = .returned (.bool true) ∧ Below w.heap.size w w' := by
  have HMd := Lib.hid (made_any n A c l w hr hA hlc hm)
  have HT := Lib.hid hT
  clear hr hA hlc hm hT _hn _hi
  go_enter Tryd.func5, Tryd.ntmps5
  go_upto_region 2 with (go_at_call 16; refine HMd.out.mono ?_; rintro e w1 ⟨g, W, gr, R, bs, rfl, hP1, hbl, hW, hb1⟩)
  have hT1 := Lib.hid (HT.out.below hb1)
  have HHa := Lib.hid (fun (w' : World) (hb : Below w1.heap.size w1 w') => has_any g W bs i w' (hP1.set.below hb))
  have HRa := Lib.hid (fun (w' : World) (hb : Below w1.heap.size w1 w') => (rank_any g W bs i w' (hP1.set.below hb)).mono fun e w'' ⟨h1, h2⟩ => (⟨h1, hb.trans (h2.mono hb.size)⟩ : _ ∧ Below w1.heap.size w1 w''))
  have HNx := Lib.hid (fun (w' : World) (hb : Below w1.heap.size w1 w') => next_any g W bs i w' (hP1.set.below hb) (hT1.out.below hb))
  have HrH := Lib.hid (fun (w' : World) (hb : Below w1.heap.size w1 w') => rhas_any gr R bs i w' (hP1.ref.below hb))
  have HrR := Lib.hid (fun (w' : World) (hb : Below w1.heap.size w1 w') => rrank_any gr R bs i w' (hP1.ref.below hb))
  have HrN := Lib.hid (fun (w' : World) (hb : Below w1.heap.size w1 w') => rnext_any gr R bs i w' (hP1.ref.below hb))
  have HSm := Lib.hid (same_any g W gr R bs w1 hP1.set hP1.ref hT1.out)
  generalize (decide (0 ≤ i) && bs[i.toNat]?.getD false) = b at HHa HrH
  generalize (bs.take i.toNat).count true = k at HRa HrR
  generalize nxt bs i.toNat = z at HNx HrN
  clear hP1 hbl HMd
  go_wp2_with (first
    | (go_at_call 19; refine HSm.out.mono ?_; rintro e w2 ⟨rfl, hb2⟩)
    | (go_at_call 18; refine (HHa.out _ hb2).mono ?_; rintro e w' ⟨rfl, rfl⟩)
    | (go_at_call 20; refine (HrH.out _ hb2).mono ?_; rintro e w' ⟨rfl, rfl⟩)
    | (go_at_call 17; refine (HRa.out _ hb2).mono ?_; rintro e w3 ⟨rfl, hb3⟩)
    | (go_at_call 21; refine (HrR.out _ hb3).mono ?_; rintro e w' ⟨rfl, rfl⟩)
    | (go_at_call 13; refine (HNx.out _ hb3).mono ?_; rintro e w' ⟨rfl, rfl⟩)
    | (go_at_call 22; refine (HrN.out _ hb3).mono ?_; rintro e w' ⟨rfl, rfl⟩)
    | (go_at_call 15; refine (awake_any _ (hT1.out.below hb3)).mono ?_; rintro e w4 ⟨rfl, hb4⟩; have hb04 := hb3.trans (hb4.mono hb3.size)))
  go_ret
  exact ⟨rfl, hb1.trans (hb04.mono hb1.size)⟩
set_option maxHeartbeats 1600000 in
theorem bitsRanks_walk (n : Int) (A : Option Addr) (c : Nat) (l : List (Int × Int)) (w : World) (_hn : (Lit.int .i64 n).wf = true) (hr : Lies w A (l.flatMap dc)) (hA : A = none → c = 0) (hlc : l.length ≤ c) (hm : l.length ≤ 9223372036854775807) (hT : Tab w) :
    Calls Tryd.prog 4 #[.int .i64 n, .slice A l.length c] w fun e w' => e = .returned (.bool true) ∧ Below w.heap.size w w' := by
  have HMd := Lib.hid (made_any n A c l w hr hA hlc hm)
  have HT := Lib.hid hT
  clear hr hA hlc hm hT _hn
  go_enter Tryd.func4, Tryd.ntmps4
  go_upto_region 2 with (go_at_call 16; refine HMd.out.mono ?_; rintro e w1 ⟨g, W, gr, R, bs, rfl, hP1, hbl, hW, hb1⟩)
  have hT1 := Lib.hid (HT.out.below hb1)
  have HSz := Lib.hid (fun (w' : World) (hb : Below w1.heap.size w1 w') => size_any g W bs w' (hP1.set.below hb))
  have HHa := Lib.hid (fun (w' : World) (hb : Below w1.heap.size w1 w') (i : Int) => has_any g W bs i w' (hP1.set.below hb))
  have HRa := Lib.hid (fun (w' : World) (hb : Below w1.heap.size w1 w') (i : Int) => (rank_any g W bs i w' (hP1.set.below hb)).mono fun e w'' ⟨h1, h2⟩ => (⟨h1, hb.trans (h2.mono hb.size)⟩ : _ ∧ Below w1.heap.size w1 w''))
  have HCn := Lib.hid (fun (w' : World) (hb : Below w1.heap.size w1 w') => (count_any g W bs w' (hP1.set.below hb)).mono fun e w'' ⟨h1, h2⟩ => (⟨h1, hb.trans (h2.mono hb.size)⟩ : _ ∧ Below w1.heap.size w1 w''))
  have HNx := Lib.hid (fun (w' : World) (hb : Below w1.heap.size w1 w') (i : Int) => next_any g W bs i w' (hP1.set.below hb) (hT1.out.below hb))
  have H0 := HNx.out w1 (Below.refl _ _) 0
  rw [show (0 : Int).toNat = 0 from rfl] at H0
  have H0 := Lib.hid H0
  have HS0 := Lib.hid (HSz.out w1 (Below.refl _ _))
  clear hP1 HMd
  go_wp2_with (first
    | (go_at_call 13; refine H0.out.mono ?_; rintro e w' ⟨rfl, rfl⟩)
    | (go_at_call 11; refine HS0.out.mono ?_; rintro e w' ⟨rfl, rfl⟩))
  go_loopg [8, 9, 22] bs.length (fun r cn nx j wr => ∃ k : Nat, k + r = bs.length ∧ j = .int .i64 k ∧ cn = .int .i64 ((bs.take k).count true) ∧ nx = .int .i64 (nxt bs k) ∧ Below w1.heap.size w1 wr)
  case atStart => exact ⟨0, by omega, rfl, by rw [List.take_zero]; rfl, rfl, Below.refl _ _⟩
  case round =>
    obtain ⟨k, hk, rfl, rfl, rfl, hbw⟩ := hrel
    by_cases hkl : k < bs.length
    · have hR := HRa.out wr hbw k
      rw [Int.toNat_natCast] at hR
      have hcs : Hid ((bs.take (k + 1)).count true = (bs.take k).count true + bs[k].toNat) := by
        show _ = _
        rw [List.take_succ_eq_append_getElem hkl, List.count_append]
        cases bs[k] <;> simp
      have hns : Hid (nxt bs k = if bs[k] then (k : Int) else nxt bs (k + 1)) := nxt_step bs k hkl
      have hge := nxt_ge bs.length bs (k + 1) (by omega)
      have hH : Hid (∀ w', Below w1.heap.size w1 w' → Calls Tryd.prog 18 #[.pointer (some ⟨g, 0, none⟩), .int .i64 k] w' fun e w'' => e = .returned (.bool bs[k]) ∧ w' = w'') := by
        show ∀ w', _
        intro w' hb
        have := HHa.out w' hb k
        rwa [decide_eq_true (show (0 : Int) ≤ (k : Int) by omega), Bool.true_and, Int.toNat_natCast, List.getElem?_eq_getElem hkl, Option.getD_some] at this
      have hN : Hid (∀ w', Below w1.heap.size w1 w' → Calls Tryd.prog 13 #[.pointer (some ⟨g, 0, none⟩), .int .i64 ((k : Int) + 1)] w' fun e w'' => e = .returned (.int .i64 (nxt bs (k + 1))) ∧ w' = w'') := by
        show ∀ w', _
        intro w' hb
        have := HNx.out w' hb ((k : Int) + 1)
        rwa [show ((k : Int) + 1).toNat = k + 1 by omega] at this
      have hR := Lib.hid hR
      have hcle := cnt_le bs k
      generalize (bs.take k).count true = s at hR hcs hcle
      generalize hzz : nxt bs (k + 1) = z at hns hN hge
      have HZ := Lib.hid hzz
      clear hzz
      generalize bs[k] = b at hcs hns hH
      cases b with
      | true =>
        have e1 : nxt bs k = (k : Int) := by rw [hns.out]; rfl
        have hc2 := Lib.hid (show (bs.take (k + 1)).count true = s + 1 by rw [hcs.out]; rfl)
        rw [e1]
        clear hcs hns e1
        go_wp2_with (first
          | (go_at_call 17; refine hR.out.mono ?_; rintro e w2 ⟨rfl, hb2⟩)
          | (go_at_call 18; refine (hH.out _ hb2).mono ?_; rintro e w' ⟨rfl, rfl⟩)
          | (go_at_call 13; refine (hN.out _ hb2).mono ?_; rintro e w' ⟨rfl, rfl⟩))
        go_roundg (bs.length - (k + 1))
        case measure => omega
        case rel => exact ⟨k + 1, by omega, by go_num, by rw [hc2.out]; go_num, by rw [HZ.out], hb2⟩
      | false =>
        have e1 : nxt bs k = z := by rw [hns.out]; rfl
        have hc2 := Lib.hid (show (bs.take (k + 1)).count true = s by rw [hcs.out]; rfl)
        have hq : (z == (k : Int)) = false := by
          refine beq_eq_false_iff_ne.mpr ?_
          rcases hge with h | ⟨k', h, h2, _⟩ <;> omega
        rw [e1]
        clear hcs hns e1 hge
        go_wp2_with (first
          | (go_at_call 17; refine hR.out.mono ?_; rintro e w2 ⟨rfl, hb2⟩)
          | (go_at_call 18; refine (hH.out _ hb2).mono ?_; rintro e w' ⟨rfl, rfl⟩))
        go_roundg (bs.length - (k + 1))
        case measure => omega
        case rel => exact ⟨k + 1, by omega, by go_num, by rw [hc2.out], by rw [HZ.out], hb2⟩
    · obtain rfl : k = bs.length := by omega
      have hz : nxt bs bs.length = -1 := nxt_end bs _ (Nat.le_refl _)
      have hC := HCn.out wr hbw
      have hA := fun w' hb => awake_any w' (hT1.out.below hb)
      rw [hz, List.take_length]
      have hC := Lib.hid hC
      have hA := Lib.hid hA
      generalize bs.count true = s at hC
      go_wp2_with (first
        | (go_at_call 12; refine hC.out.mono ?_; rintro e w2 ⟨rfl, hb2⟩)
        | (go_at_call 15; refine (hA.out _ hb2).mono ?_; rintro e w4 ⟨rfl, hb4⟩; have hb04 := hb2.trans (hb4.mono hb2.size)))
      go_ret
      exact ⟨rfl, hb1.trans (hb04.mono hb1.size)⟩
end Go.Proofs.YtopgikjmeebgbaaDoor
