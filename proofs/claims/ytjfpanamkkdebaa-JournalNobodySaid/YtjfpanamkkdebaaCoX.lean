/- The coder's reader on any bytes. -/
import Derived.Test.YtjfpanamkkdebaaCoP
namespace Go.Proofs.Ytjfpanamkkdebaa
open Go.RowKit
set_option linter.unusedVariables false
set_option linter.unusedSimpArgs false
/-- A reader that has an error. -/
structure RdNo (w : World) (g e : Nat) : Prop where
  cells : w.heap[g]? = some (.cells #[.slice none 0 0, .int .i64 e, .bool true] 118 (0, 0))
  pos : 0 < e
  small : e < 10
theorem RdNo.rest {w : World} {g e : Nat} (h : RdNo w g e) : w.cell? ⟨g, 0, none⟩ = some (.slice none 0 0) := by simp [World.cell?, h.cells]
theorem RdNo.err {w : World} {g e : Nat} (h : RdNo w g e) : w.cell? ⟨g, 1, none⟩ = some (.int .i64 e) := by simp [World.cell?, h.cells]
theorem RdNo.made {w : World} {g e : Nat} (h : RdNo w g e) : w.cell? ⟨g, 2, none⟩ = some (.bool true) := by simp [World.cell?, h.cells]
theorem RdNo.lt {w : World} {g e : Nat} (h : RdNo w g e) : g < w.heap.size := World.block_lt_of_cell? w ⟨g, 0, none⟩ h.rest
theorem RdNo.same {w w' : World} {g e : Nat} (h : RdNo w g e) (hg : w'.heap[g]? = w.heap[g]?) : RdNo w' g e := ⟨by rw [hg]; exact h.cells, h.pos, h.small⟩
theorem RdNo.alike {w w' : World} {g e : Nat} (h : RdNo w g e) (hb : Below w.heap.size w w') : RdNo w' g e := h.same (hb.block g h.lt)
theorem RdNo.own {w w' : World} {g e : Nat} {row : Option Nat} (h : RdNo w g e) (hg : w.grownBy w' row) (hr : ∀ k, row = some k → g < k) : RdNo w' g e :=
  h.same (hg.block g h.lt (fun e => by have := hr g e.symm; omega))
theorem fail_ok (g e : Nat) (bs : List UInt8) (w : World) (h : RdOk w g bs) (h0 : 0 < e) (h1 : e < 10) :
    Calls Try.prog 81 #[.pointer (some ⟨g, 0, none⟩), .int .i64 e] w fun x w' => x = .returned (.tuple #[]) ∧ RdNo w' g e ∧ w.grownBy w' (some g) := by
  obtain ⟨A, c, h⟩ := h
  have k0 := h.rest
  have k1 := h.err
  have k2 := h.made
  have hf0 := h.free 0
  have hf1 := h.free 1
  have HC := Lib.hid h.cells
  have hq : ((e : Int) == 0) = false := beq_eq_false_iff_ne.mpr (by omega)
  clear h
  go_enter Try.func81, Try.ntmps81
  go_wp2
  go_returns
  refine ⟨rfl, ⟨?_, h0, h1⟩, Lib.grownBy_trans (Lib.grownBy_setCell w g 1 _) (Lib.grownBy_setCell _ g 0 _)⟩
  rw [heap_setCell_same _ g 0 _ _ _ (heap_setCell_same w g 1 _ _ _ HC.out)]
  rfl
theorem take_short (g n : Nat) (bs : List UInt8) (w : World) (h : RdOk w g bs) (hn : bs.length < n) (hm : n ≤ 140737488355328) :
    Calls Try.prog 72 #[.pointer (some ⟨g, 0, none⟩), .int .i64 n] w fun e w' => e = .returned (.tuple #[.slice none 0 0, .bool false]) ∧ RdNo w' g 4 ∧ w.grownBy w' (some g) := by
  have HF := Lib.hid (fail_ok g 4 bs w h (by decide) (by decide))
  obtain ⟨A, c, h⟩ := h
  have h0 := h.rest
  have h1 := h.err
  have h2 := h.made
  clear h
  go_enter Try.func72, Try.ntmps72
  go_wp2_with (go_at_call 81; refine HF.out.mono ?_; rintro e w1 ⟨rfl, hr, hg⟩)
  go_returns
  exact ⟨rfl, hr, hg⟩
theorem take_no (g c : Nat) (n : Int) (w : World) (h : RdNo w g c) :
    Calls Try.prog 72 #[.pointer (some ⟨g, 0, none⟩), .int .i64 n] w fun e w' => e = .returned (.tuple #[.slice none 0 0, .bool false]) ∧ w = w' := by
  have h1 := h.err
  have h2 := h.made
  have h0 := h.pos
  have hq : ((c : Int) != 0) = true := bne_iff_ne.mpr (by omega)
  clear h
  go_enter Try.func72, Try.ntmps72
  go_wp2
  go_returns
  exact ⟨rfl, rfl⟩
theorem raw_no (g c : Nat) (w : World) (h : RdNo w g c) :
    Calls Try.prog 82 #[.pointer (some ⟨g, 0, none⟩)] w fun e w' => e = .returned (.tuple #[.int .u64 0, .bool false]) ∧ w = w' := by
  have HT := Lib.hid (take_no g c 1 w h)
  clear h
  go_enter Try.func82, Try.ntmps82
  go_wp2_with (go_at_call 72; refine HT.out.mono ?_; rintro e w1 ⟨rfl, rfl⟩)
  go_returns
  exact ⟨rfl, rfl⟩
theorem num_no (g c : Nat) (most : Int) (w : World) (h : RdNo w g c) :
    Calls Try.prog 73 #[.pointer (some ⟨g, 0, none⟩), .int .i64 most] w fun e w' => e = .returned (.int .i64 0) ∧ w = w' := by
  have HT := Lib.hid (raw_no g c w h)
  clear h
  go_enter Try.func73, Try.ntmps73
  go_wp2_with (go_at_call 82; refine HT.out.mono ?_; rintro e w1 ⟨rfl, rfl⟩)
  go_returns
  exact ⟨rfl, rfl⟩
theorem err_no (g c : Nat) (w : World) (h : RdNo w g c) :
    Calls Try.prog 60 #[.pointer (some ⟨g, 0, none⟩)] w fun e w' => e = .returned (.int .i64 c) ∧ w = w' := by
  have h1 := h.err
  have h2 := h.made
  clear h
  go_enter Try.func60, Try.ntmps60
  go_wp2
  go_returns
  exact ⟨rfl, rfl⟩
theorem left_no (g c : Nat) (w : World) (h : RdNo w g c) :
    Calls Try.prog 57 #[.pointer (some ⟨g, 0, none⟩)] w fun e w' => e = .returned (.int .i64 0) ∧ w = w' := by
  have h1 := h.rest
  clear h
  go_enter Try.func57, Try.ntmps57
  go_wp2
  go_returns
  exact ⟨rfl, rfl⟩
/-- A reader behind an answer. -/
def Behind {α : Type} (w : World) (g : Nat) (o : Out α) : Prop :=
  match o with
  | .ok _ r => RdOk w g r
  | .no e => RdNo w g e
set_option maxHeartbeats 1600000 in
theorem raw_any (g : Nat) (bs : List UInt8) (w : World) (h : RdOk w g bs) (hm : bs.length ≤ 140737488355300) :
    Calls Try.prog 82 #[.pointer (some ⟨g, 0, none⟩)] w fun e w' => ((∃ x r, rawP bs = .ok x r ∧ e = .returned (.tuple #[.int .u64 x, .bool true]) ∧ RdOk w' g r) ∨ (∃ c, rawP bs = .no c ∧ e = .returned (.tuple #[.int .u64 0, .bool false]) ∧ RdNo w' g c)) ∧ w.grownBy w' (some g) := by
  cases bs with
  | nil =>
    have HT := Lib.hid (take_short g 1 [] w h (by simp) (by decide))
    clear h hm
    go_enter Try.func82, Try.ntmps82
    go_wp2_with (go_at_call 72; refine HT.out.mono ?_; rintro e w1 ⟨rfl, hr, hg⟩)
    go_returns
    exact ⟨.inr ⟨4, rfl, rfl, hr⟩, hg⟩
  | cons b bs =>
    have hlen : (b :: bs).length = bs.length + 1 := rfl
    have HP := Lib.hid (rawP_cons b bs)
    have HT1 := take_ok g 1 (b :: bs) w h (by omega) (by omega)
    rw [show (b :: bs).take 1 = [b] from rfl, show (b :: bs).drop 1 = bs from rfl] at HT1
    have HT1 := Lib.hid HT1
    have hbs : bs.length ≤ 140737488355300 := by omega
    clear h hlen hm
    obtain ⟨o, ho⟩ : ∃ o, o = rawP (b :: bs) := ⟨_, rfl⟩
    rw [← ho] at HP ⊢
    clear ho
    have hh : b.toNat < 256 := b.toNat_lt
    obtain ⟨B, hB⟩ : ∃ B, B = b.toNat := ⟨_, rfl⟩
    have HBv := Lib.hid (show (b.toNat : Int) = (B : Int) by rw [hB])
    rw [← hB] at HP hh
    clear hB
    have HNot := Lib.hid (not_num hh)
    have HAnd := and_any ⟨B, hh⟩
    simp only at HAnd
    have HSm := Lib.hid (acc_small B)
    obtain ⟨k, hk0⟩ : ∃ k, k = ones B := ⟨_, rfl⟩
    have hk : k ≤ 8 := by rw [hk0]; exact ones_le B
    have HLd : Lib.bitLen (255 - B) = 8 - k := by
      have h1 : Lib.bitLen (255 - B) ≤ 8 := by
        have : ∀ b : Fin 256, Lib.bitLen (255 - b.val) ≤ 8 := by decide +kernel
        exact this ⟨B, hh⟩
      rw [hk0]; unfold ones; omega
    rw [← hk0] at HAnd HP HSm
    have HLZ := fun w1 => leadingZeros8 ((255 - B : Nat) : Int) w1 (by omega) (by omega)
    simp only [Int.toNat_natCast, HLd] at HLZ
    rw [show ((8 : Int) - ((8 - k : Nat) : Int)) = (k : Int) by omega] at HLZ
    have HLZ := Lib.hid HLZ
    have HH8 : Hid (8 ≤ k → hd B = 0) := fun h => by unfold hd; rw [← hk0, if_neg (by omega)]
    clear HLd hk0
    go_enter Try.func82, Try.ntmps82
    go_wp2_with fail
    refine HT1.out.mono ?_
    rintro e w1 ⟨A1, rfl, r1, hA1, hr1, hg1⟩
    obtain ⟨a, rfl, hc⟩ := r1.at (k := 0) (by simp)
    rw [Addr.add_zero', List.getElem_cons_zero, HBv.out] at hc
    clear HT1
    go_wp2_with fail
    rw [HNot.out]
    refine (HLZ.out _).mono ?_
    rintro e w2 ⟨rfl, rfl⟩
    by_cases h8 : k < 8
    · have hq : decide ((k : Int) < 8) = true := decide_eq_true (by omega)
      have HV : Hid (IntKind.u64.wrap (bits .and .u8 (B : Int) (255 / 2 ^ k)) = ((hd B : Nat) : Int)) := by
        show _ = _
        have hlt : hd B < 256 := by rw [← HAnd h8]; exact Nat.lt_of_le_of_lt Nat.and_le_left hh
        rw [show ((255 : Int) / 2 ^ k) = ((255 / 2 ^ k : Nat) : Int) by simp, u8_and_nat _ _ hh (by have := Nat.div_le_self 255 (2 ^ k); omega), HAnd h8, IntKind.wrap_u64]
        omega
      clear HAnd HBv
      go_wp2_with fail
      go_quiet (fail)
      go_wp2_with fail
      rw [HV.out]
      have hrW := hr1.heap (w' := w2.drewN nq) rfl
      have hgW : w.grownBy (w2.drewN nq) (some g) := Lib.grownBy_trans hg1 ⟨rfl, rfl, rfl, Nat.le_refl _, fun _ _ _ => rfl⟩
      clear HV hr1 hg1
      generalize w2.drewN nq = W at hrW hgW ⊢
      have hz : hd B < 18446744073709551616 := by
        have := HSm.out [] (by simp)
        simpa [acc] using this
      generalize hd B = y0 at HP HSm hz ⊢
      by_cases hs : bs.length < k
      · have HT2 := Lib.hid (take_short g k bs W hrW hs (by omega))
        rw [if_pos hs] at HP
        have HP2 := HP.out
        clear HP HSm hrW
        subst HP2
        go_wp2_with (go_at_call 72; refine HT2.out.mono ?_; rintro e w3 ⟨rfl, hr, hg⟩)
        go_returns
        exact ⟨.inr ⟨4, rfl, rfl, hr⟩, Lib.grownBy_trans hgW hg⟩
      · have HT2 := take_ok g k bs W hrW (by omega) (by omega)
        have HP2 := HP.out
        rw [if_neg hs] at HP2
        have htl : (bs.take k).length = k := by rw [List.length_take]; omega
        have HSm2 : Hid (∀ j, j ≤ k → acc y0 ((bs.take k).take j) < 18446744073709551616) := fun j hj => HSm.out _ (by rw [List.length_take]; omega)
        generalize bs.take k = tk at HT2 HP2 htl HSm2
        have HP := Lib.hid HP2
        clear HP2 HSm
        have HT2 := Lib.hid HT2
        go_wp2_with fail
        refine HT2.out.mono ?_
        rintro e w3 ⟨A3, rfl, r3, hA3, hr3, hg3⟩
        have hgw := Lib.grownBy_trans hgW hg3
        clear HT2 hrW hgW hg3 hc hA1 hA3
        generalize bs.drop k = rs at hr3 HP
        go_wp2
        go_loopg [7, 41] k (fun r v i wr => wr = w3 ∧ ∃ j : Nat, j + r = k ∧ i = .int .i64 j ∧ v = .int .u64 ((acc y0 (tk.take j) : Nat) : Int))
        case atStart => exact ⟨rfl, 0, by omega, rfl, by rw [List.take_zero]; rfl⟩
        case round =>
          obtain ⟨rfl, j, hj, rfl, rfl⟩ := hrel
          by_cases hjk : j < k
          · have hjt : j < tk.length := by omega
            obtain ⟨a3, rfl, hc3⟩ := r3.at (k := j) hjt
            have HA : Hid (acc y0 (tk.take (j + 1)) = acc y0 (tk.take j) * 256 + tk[j].toNat) := by show _ = _; rw [List.take_succ_eq_append_getElem hjt, acc_snoc]
            have hsm := HSm2.out (j + 1) (by omega)
            rw [HA.out] at hsm
            have hbl : tk[j].toNat < 256 := tk[j].toNat_lt
            generalize tk[j].toNat = c at hc3 HA hsm hbl
            generalize acc y0 (tk.take j) = y at HA hsm ⊢
            have HV := Lib.hid (or_byte y c hbl hsm)
            clear hsm
            go_wp2
            go_roundg (k - (j + 1))
            case measure => omega
            case rel => exact ⟨rfl, j + 1, by omega, by go_num, by rw [HV.out, HA.out]⟩
          · obtain rfl : j = k := by omega
            have hx := HSm2.out j (Nat.le_refl _)
            rw [List.take_of_length_le (by omega)] at hx ⊢
            generalize acc y0 tk = x at hx HP ⊢
            clear r3
            go_wp2_with fail
            refine (need_any x _ hx).mono ?_
            rintro e w4 ⟨rfl, rfl⟩
            have hnx := need_le x
            have HP2 := HP.out
            clear HP
            by_cases hn : need x = j
            · rw [if_pos hn] at HP2
              subst HP2
              have hqn : ((need x : Int) != (j : Int)) = false := by rw [hn]; exact bne_self_eq_false _
              go_wp2
              go_returns
              exact ⟨.inl ⟨x, rs, rfl, rfl, hr3⟩, hgw⟩
            · rw [if_neg hn] at HP2
              subst HP2
              have hqn : ((need x : Int) != (j : Int)) = true := bne_iff_ne.mpr (by omega)
              have HF := Lib.hid (fail_ok g 3 rs _ hr3 (by decide) (by decide))
              clear hn
              go_wp2_with (go_at_call 81; refine HF.out.mono ?_; rintro e w5 ⟨rfl, hr5, hg5⟩)
              go_returns
              exact ⟨.inr ⟨3, rfl, rfl, hr5⟩, Lib.grownBy_trans hgw hg5⟩
    · have hq : decide ((k : Int) < 8) = false := decide_eq_false (by omega)
      have hrW := hr1
      have hgW := hg1
      have HV : Hid ((0 : Int) = ((hd B : Nat) : Int)) := by
        show _ = _
        rw [HH8.out (by omega)]; rfl
      clear hr1 hg1 HAnd HBv
      go_wp2_with fail
      obtain ⟨W, rfl⟩ : ∃ W, W = w2 := ⟨_, rfl⟩
      have hz : hd B < 18446744073709551616 := by
        have := HSm.out [] (by simp)
        simpa [acc] using this
      generalize hd B = y0 at HP HSm hz HV ⊢
      by_cases hs : bs.length < k
      · have HT2 := Lib.hid (take_short g k bs W hrW hs (by omega))
        rw [if_pos hs] at HP
        have HP2 := HP.out
        clear HP HSm hrW
        subst HP2
        go_wp2_with (go_at_call 72; refine HT2.out.mono ?_; rintro e w3 ⟨rfl, hr, hg⟩)
        go_returns
        exact ⟨.inr ⟨4, rfl, rfl, hr⟩, Lib.grownBy_trans hgW hg⟩
      · have HT2 := take_ok g k bs W hrW (by omega) (by omega)
        have HP2 := HP.out
        rw [if_neg hs] at HP2
        have htl : (bs.take k).length = k := by rw [List.length_take]; omega
        have HSm2 : Hid (∀ j, j ≤ k → acc y0 ((bs.take k).take j) < 18446744073709551616) := fun j hj => HSm.out _ (by rw [List.length_take]; omega)
        generalize bs.take k = tk at HT2 HP2 htl HSm2
        have HP := Lib.hid HP2
        clear HP2 HSm
        have HT2 := Lib.hid HT2
        go_wp2_with fail
        refine HT2.out.mono ?_
        rintro e w3 ⟨A3, rfl, r3, hA3, hr3, hg3⟩
        have hgw := Lib.grownBy_trans hgW hg3
        clear HT2 hrW hgW hg3 hc hA1 hA3
        generalize bs.drop k = rs at hr3 HP
        go_wp2
        go_loopg [7, 41] k (fun r v i wr => wr = w3 ∧ ∃ j : Nat, j + r = k ∧ i = .int .i64 j ∧ v = .int .u64 ((acc y0 (tk.take j) : Nat) : Int))
        case atStart => exact ⟨rfl, 0, by omega, rfl, by rw [List.take_zero, show acc y0 [] = y0 from rfl, ← HV.out]⟩
        case round =>
          obtain ⟨rfl, j, hj, rfl, rfl⟩ := hrel
          by_cases hjk : j < k
          · have hjt : j < tk.length := by omega
            obtain ⟨a3, rfl, hc3⟩ := r3.at (k := j) hjt
            have HA : Hid (acc y0 (tk.take (j + 1)) = acc y0 (tk.take j) * 256 + tk[j].toNat) := by show _ = _; rw [List.take_succ_eq_append_getElem hjt, acc_snoc]
            have hsm := HSm2.out (j + 1) (by omega)
            rw [HA.out] at hsm
            have hbl : tk[j].toNat < 256 := tk[j].toNat_lt
            generalize tk[j].toNat = c at hc3 HA hsm hbl
            generalize acc y0 (tk.take j) = y at HA hsm ⊢
            have HV := Lib.hid (or_byte y c hbl hsm)
            clear hsm
            go_wp2
            go_roundg (k - (j + 1))
            case measure => omega
            case rel => exact ⟨rfl, j + 1, by omega, by go_num, by rw [HV.out, HA.out]⟩
          · obtain rfl : j = k := by omega
            have hx := HSm2.out j (Nat.le_refl _)
            rw [List.take_of_length_le (by omega)] at hx ⊢
            generalize acc y0 tk = x at hx HP ⊢
            clear r3
            go_wp2_with fail
            refine (need_any x _ hx).mono ?_
            rintro e w4 ⟨rfl, rfl⟩
            have hnx := need_le x
            have HP2 := HP.out
            clear HP
            by_cases hn : need x = j
            · rw [if_pos hn] at HP2
              subst HP2
              have hqn : ((need x : Int) != (j : Int)) = false := by rw [hn]; exact bne_self_eq_false _
              go_wp2
              go_returns
              exact ⟨.inl ⟨x, rs, rfl, rfl, hr3⟩, hgw⟩
            · rw [if_neg hn] at HP2
              subst HP2
              have hqn : ((need x : Int) != (j : Int)) = true := bne_iff_ne.mpr (by omega)
              have HF := Lib.hid (fail_ok g 3 rs _ hr3 (by decide) (by decide))
              clear hn
              go_wp2_with (go_at_call 81; refine HF.out.mono ?_; rintro e w5 ⟨rfl, hr5, hg5⟩)
              go_returns
              exact ⟨.inr ⟨3, rfl, rfl, hr5⟩, Lib.grownBy_trans hgw hg5⟩
set_option maxHeartbeats 800000 in
theorem rdnum (g : Nat) (most : Int) (bs : List UInt8) (w : World) (h : RdOk w g bs) (hm : bs.length ≤ 140737488355300) :
    Calls Try.prog 73 #[.pointer (some ⟨g, 0, none⟩), .int .i64 most] w fun e w' => ((∃ x r, numP most bs = .ok x r ∧ e = .returned (.int .i64 x) ∧ RdOk w' g r) ∨ (∃ c, numP most bs = .no c ∧ e = .returned (.int .i64 0) ∧ RdNo w' g c)) ∧ w.grownBy w' (some g) := by
  have HR := Lib.hid (raw_any g bs w h hm)
  have HE := Lib.hid (show numP most bs = match rawP bs with | .ok x r => if 9223372036854775808 ≤ x ∨ most < (x : Int) then .no 5 else .ok x r | .no e => .no e from rfl)
  have HX := Lib.hid (fun x r => rawP_lt (bs := bs) (r := r) (x := x))
  clear h hm
  go_enter Try.func73, Try.ntmps73
  go_wp2_with fail
  refine HR.out.mono ?_
  rintro e w1 ⟨⟨x, r, hx, rfl, hr⟩ | ⟨c, hc, rfl, hr⟩, hg⟩
  · have HE2 := HE.out
    have hxl := (HX.out x r hx).1
    rw [hx] at HE2
    clear HR HE HX hx
    simp only at HE2
    by_cases h1 : 9223372036854775808 ≤ x
    · rw [if_pos (.inl h1)] at HE2
      have HE := Lib.hid HE2
      have hq : ((x : Int) / 9223372036854775808 == 1) = true := beq_iff_eq.mpr (by omega)
      have HF := Lib.hid (fail_ok g 5 r _ hr (by decide) (by decide))
      clear HE2 h1 hxl
      go_wp2_with (go_at_call 81; refine HF.out.mono ?_; rintro e w2 ⟨rfl, hr2, hg2⟩)
      go_returns
      exact ⟨.inr ⟨5, HE.out, rfl, hr2⟩, Lib.grownBy_trans hg hg2⟩
    · have hq : ((x : Int) / 9223372036854775808 == 1) = false := beq_eq_false_iff_ne.mpr (by omega)
      by_cases h2 : most < (x : Int)
      · rw [if_pos (.inr h2)] at HE2
        have HE := Lib.hid HE2
        have HF := Lib.hid (fail_ok g 5 r _ hr (by decide) (by decide))
        clear HE2
        go_wp2_with (go_at_call 81; refine HF.out.mono ?_; rintro e w2 ⟨rfl, hr2, hg2⟩)
        go_returns
        exact ⟨.inr ⟨5, HE.out, rfl, hr2⟩, Lib.grownBy_trans hg hg2⟩
      · rw [if_neg (by omega)] at HE2
        have HE := Lib.hid HE2
        clear HE2
        go_wp2
        go_returns
        exact ⟨.inl ⟨x, r, HE.out, rfl, hr⟩, hg⟩
  · have HE2 := HE.out
    rw [hc] at HE2
    have HE := Lib.hid HE2
    clear HR HX hc HE2
    go_wp2
    go_returns
    exact ⟨.inr ⟨c, HE.out, rfl, hr⟩, hg⟩
theorem rdnum_ok {g : Nat} {most : Int} {bs r : List UInt8} {x : Nat} (hx : numP most bs = .ok x r) (w : World) (h : RdOk w g bs) (hm : bs.length ≤ 140737488355300) :
    Calls Try.prog 73 #[.pointer (some ⟨g, 0, none⟩), .int .i64 most] w fun e w' => e = .returned (.int .i64 x) ∧ RdOk w' g r ∧ w.grownBy w' (some g) := by
  refine (rdnum g most bs w h hm).mono ?_
  rintro e w1 ⟨⟨y, s, hy, rfl, hr⟩ | ⟨c, hc, rfl, hr⟩, hg⟩
  · rw [hx] at hy; cases hy; exact ⟨rfl, hr, hg⟩
  · rw [hx] at hc; cases hc
theorem rdnum_no {g : Nat} {most : Int} {bs : List UInt8} {c : Nat} (hx : numP most bs = .no c) (w : World) (h : RdOk w g bs) (hm : bs.length ≤ 140737488355300) :
    Calls Try.prog 73 #[.pointer (some ⟨g, 0, none⟩), .int .i64 most] w fun e w' => e = .returned (.int .i64 0) ∧ RdNo w' g c ∧ w.grownBy w' (some g) := by
  refine (rdnum g most bs w h hm).mono ?_
  rintro e w1 ⟨⟨y, s, hy, rfl, hr⟩ | ⟨d, hc, rfl, hr⟩, hg⟩
  · rw [hx] at hy; cases hy
  · rw [hx] at hc; cases hc; exact ⟨rfl, hr, hg⟩
end Go.Proofs.Ytjfpanamkkdebaa
