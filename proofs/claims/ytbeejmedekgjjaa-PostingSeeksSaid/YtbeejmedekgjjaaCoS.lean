/- The walks of the coder's writers, of numbers of either sign, texts, numbers that rise. -/
import Derived.Test.YtbeejmedekgjjaaCoW
import Derived.BigQuiet
import Derived.Deep.QuietTactic
import Derived.Lib.AppendStr
namespace Go.Proofs.Ytbeejmedekgjjaa
open Go.RowKit
set_option linter.unusedVariables false
set_option linter.unusedSimpArgs false
theorem zig {n : Int} (h0 : -9223372036854775808 ≤ n) (h1 : n ≤ 9223372036854775807) : Go.bits .xor .u64 (IntKind.u64.wrap (IntKind.u64.wrap n * 2)) (IntKind.u64.wrap (n / 9223372036854775808)) = ((signNat n : Nat) : Int) := by
  rw [IntKind.wrap_u64, IntKind.wrap_u64, IntKind.wrap_u64, signNat]
  split
  · rename_i h
    have e1 : n / 9223372036854775808 % 18446744073709551616 = ((18446744073709551615 : Nat) : Int) := by omega
    have e2 : n % 18446744073709551616 * 2 % 18446744073709551616 = ((18446744073709551615 - (2 * (-(n + 1)).toNat + 1) : Nat) : Int) := by omega
    rw [e1, e2, u64_xor_nat _ _ (by omega) (by decide), xor_ones (by omega)]
    omega
  · rename_i h
    have e1 : n / 9223372036854775808 % 18446744073709551616 = ((0 : Nat) : Int) := by omega
    have e2 : n % 18446744073709551616 * 2 % 18446744073709551616 = ((2 * n.toNat : Nat) : Int) := by omega
    rw [e1, e2, u64_xor_nat _ _ (by omega) (by decide), Nat.xor_zero]
set_option maxHeartbeats 800000 in
theorem text_any (A : Option Addr) (c : Nat) (bs : List UInt8) (s : ByteArray) (w : World) (hm : bs.length + s.size ≤ 140737488355000) (hA : A = none → c = 0) (hlc : bs.length ≤ c) (hr : RB w A bs) :
    Calls Try.prog 23 #[.slice A bs.length c, .string s] w fun e w' => ∃ v, e = .returned v ∧ OB w' w.heap.size v (bs ++ textBytes s.data.toList) ∧ Below w.heap.size w w' := by
  have HML : Hid (maxLen = 9223372036854775807) := rfl
  obtain ⟨i0, hi, hz0, hz1, hz2⟩ := info_parts info_u8
  have hns : numNat (s.size : Int) = s.size := by unfold numNat; omega
  have hnl : (numBytes s.size).length ≤ 9 := by rw [numBytes_length]; have := need_le s.size; omega
  have HC := num_any A c bs (s.size : Int) w (by omega) (by omega) hA hlc hr
  rw [hns] at HC
  have HC := Lib.hid HC
  clear hns
  go_enter Try.func23, Try.ntmps23
  go_wp2_with fail
  refine HC.out.mono ?_
  rintro e w1 ⟨v1, rfl, ho, hb⟩
  have hol := ho
  unfold OB at hol
  have hll : (bs ++ numBytes s.size).length ≤ bs.length + 9 := by rw [List.length_append]; omega
  go_wp2_with (at_builtin; refine Lib.wpList_append_own_string _ rfl _ _ 23 9 rfl w.heap.size 5 i0 Try.underlying23 Try.underlying9 hi hz0 hz1 hz2 _ _ _ rfl hol s rfl ?c1 ?c2 ?c3 ?_)
  case c1 => rw [HML.out]; omega
  case c2 => omega
  case c3 => exact hb.size
  intro v2 w2 hown2 hg2 _
  go_wp2
  go_ret
  refine ⟨_, rfl, OB.mk hown2 ?_ ?_, hb.grown hg2 hb.size (by intro j hj; exact (World.ownsRow.lt hol j hj).1)⟩
  · have : s.data.toList.length = s.size := by rw [Array.length_toList]; rfl
    simp only [textBytes, List.length_append, this]; omega
  · have : s.data.toList.length = s.size := by rw [Array.length_toList]; rfl
    rw [textBytes, this, List.map_append, List.map_append]
    rfl
/-- How many bytes gaps take. -/
theorem gapBytes_le (l : List Int) : ∀ d, (gapBytes d l).length ≤ 9 * l.length := by
  induction l with
  | nil => intro d; simp [gapBytes]
  | cons x l ih =>
    intro d
    have h1 := ih x
    have h2 := need_le (x - d - 1).toNat
    simp only [gapBytes, List.length_append, numBytes_length, List.length_cons]
    omega
theorem gap_of {x d : Int} (h0 : d < x) (h1 : -1 ≤ d) (h2 : x ≤ 9223372036854775807) : wrap64 (wrap64 (x - d) - 1) = x - d - 1 := by unfold wrap64; omega
set_option maxHeartbeats 1600000 in
theorem rising_any (A B : Option Addr) (c d : Nat) (bs : List UInt8) (l : List Int) (w : World) (hm : bs.length + 9 * l.length ≤ 140737488355000) (hA : A = none → c = 0) (hlc : bs.length ≤ c) (hld : l.length ≤ d)
    (hl : ∀ z ∈ l, -9223372036854775808 ≤ z ∧ z ≤ 9223372036854775807) (hr : RB w A bs) (hs : Lies w B (l.map (Value.int .i64))) :
    Calls Try.prog 43 #[.slice A bs.length c, .slice B l.length d] w fun e w' => ∃ v, e = .returned v ∧ OB w' w.heap.size v (bs ++ risingBytes l) ∧ Below w.heap.size w w' := by
  have hrl := rise_length_le l
  go_enter Try.func43, Try.ntmps43
  go_wp2
  go_loopg [5, 6] (rise l).length (fun r n last wr => wr = w ∧ ∃ k : Nat, k + r = (rise l).length ∧ n = .int .i64 k ∧ last = .int .i64 (lastOf (-1) (l.take k)))
  case atStart => exact ⟨rfl, 0, by omega, rfl, rfl⟩
  case round =>
    obtain ⟨rfl, k, hk, rfl, rfl⟩ := hrel
    by_cases hup : k < (rise l).length
    · have hlt : k < l.length := by omega
      have hstep := rise_step (l := l) (k := k) (by omega) hlt
      obtain ⟨a, rfl, hc⟩ := Lies.at hs (k := k) (by simpa using hlt)
      rw [List.getElem_map] at hc
      have hup2 := hstep.1 hup
      have HT : Hid (lastOf (-1) (l.take (k + 1)) = l[k]) := by
        show _ = _
        rw [List.take_succ_eq_append_getElem hlt, lastOf_snoc]
      generalize lastOf (-1) (l.take k) = last at hup2 ⊢
      have hzb := hl _ (List.getElem_mem hlt)
      generalize hxe : l[k] = x at hc hup2 HT hzb
      clear hxe hstep
      go_wp2
      go_roundg ((rise l).length - (k + 1))
      case measure => omega
      case rel => exact ⟨rfl, k + 1, by omega, by go_num, by rw [HT.out]⟩
    · have HK : Hid (k = (rise l).length) := by show _ = _; omega
      have HRT : Hid (rise l = l.take k) := by show _ = _; rw [HK.out]; exact rise_eq_take l
      have hns : numNat (k : Int) = k := by unfold numNat; omega
      have hkl : k ≤ l.length := by omega
      have hnl : (numBytes k).length ≤ 9 := by rw [numBytes_length]; have := need_le k; omega
      have HC := num_any A c bs (k : Int) wr (by omega) (by omega) hA hlc hr
      rw [hns] at HC
      have HC := Lib.hid HC
      clear hns
      by_cases hlt : k < l.length
      · have hstep := rise_step (l := l) (k := k) (by omega) hlt
        obtain ⟨a, rfl, hc⟩ := Lies.at hs (k := k) (by simpa using hlt)
        rw [List.getElem_map] at hc
        have hup2 : ¬ lastOf (-1) (l.take k) < l[k] := fun h => hup (hstep.2 h)
        have hzb := hl _ (List.getElem_mem hlt)
        clear hstep
        generalize lastOf (-1) (l.take k) = last at hup2 ⊢
        generalize hxe : l[k] = x at hc hup2 hzb
        clear hxe
        go_wp2_with fail
        refine HC.out.mono ?_
        rintro e w1 ⟨v1, rfl, ho1, hb1⟩
        have hdk : k ≤ d := by omega
        go_wp2
        have hab : ∀ j, j < k → lastOf (-1) (l.take j) < l[j]! := by
          intro j hj
          rw [getElem!_pos l j (by omega)]
          exact rise_above (by rw [← HK.out]; exact hj) (by omega)
        have hlg : ∀ j, j ≤ k → -1 ≤ lastOf (-1) (l.take j) := fun j hj => rise_last_ge l j (by rw [← HK.out]; exact hj)
        have HAB := Lib.hid hab
        have HLG := Lib.hid hlg
        clear hab hlg HC
        obtain ⟨w0, rfl⟩ : ∃ w0 : World, w0 = wr := ⟨_, rfl⟩
        go_loopg [6, 7, 35] k (fun r last v7 i wz => ∃ j : Nat, j + r = k ∧ i = .int .i64 j ∧ last = .int .i64 (lastOf (-1) (l.take j)) ∧ OB wz w0.heap.size v7 ((bs ++ numBytes k) ++ gapBytes (-1) (l.take j)) ∧ Below w0.heap.size w0 wz)
        case atStart => exact ⟨0, by omega, rfl, rfl, by simpa [gapBytes] using ho1, hb1⟩
        case round =>
          clear ho1 hb1
          obtain ⟨j, hj, rfl, rfl, ho, hb⟩ := hrel
          by_cases hjk : j < k
          · have hjl : j < l.length := by omega
            obtain ⟨_, e, hc⟩ := Lies.at (hs.below hb) (k := j) (by simp; omega)
            cases e
            rw [List.getElem_map] at hc
            have h1 := HAB.out j hjk
            rw [getElem!_pos l j hjl] at h1
            have h2 := HLG.out j (by omega)
            have h3 := (hl _ (List.getElem_mem hjl)).2
            have HG : Hid (gapBytes (-1) (l.take (j + 1)) = gapBytes (-1) (l.take j) ++ numBytes (l[j] - lastOf (-1) (l.take j) - 1).toNat) := by
              show _ = _
              rw [List.take_succ_eq_append_getElem hjl, gapBytes_snoc]
            have HL : Hid (lastOf (-1) (l.take (j + 1)) = l[j]) := by
              show _ = _
              rw [List.take_succ_eq_append_getElem hjl, lastOf_snoc]
            have hgl := gapBytes_le (l.take j) (-1)
            rw [List.length_take, Nat.min_eq_left (by omega)] at hgl
            generalize lastOf (-1) (l.take j) = last at h1 h2 HG ⊢
            generalize hxe : l[j] = x at hc h1 h3 HG HL
            clear hxe
            have hwr := gap_of h1 h2 h3
            have hlen : ((bs ++ numBytes k) ++ gapBytes (-1) (l.take j)).length ≤ bs.length + 9 + 9 * j := by simp only [List.length_append]; omega
            obtain ⟨cur, hcur⟩ : ∃ cur, cur = (bs ++ numBytes k) ++ gapBytes (-1) (l.take j) := ⟨_, rfl⟩
            rw [← hcur] at ho hlen
            have HCur := Lib.hid hcur
            clear hcur
            obtain ⟨A1, c1, rfl, hl1, hA1⟩ := ho.form
            have hns : numNat (x - last - 1) = (x - last - 1).toNat := by unfold numNat; omega
            have HC := num_any A1 c1 _ (x - last - 1) wr (by omega) (by omega) hA1 hl1 (RB.of_own ho)
            rw [hns] at HC
            have HC2 := Lib.hid HC
            clear HC hns
            go_wp2_with fail
            refine HC2.out.mono ?_
            rintro e w2 ⟨v2, rfl, ho2, hb2⟩
            have ho3 := ho2.mono hb.size
            have hb3 := hb.trans (hb2.mono hb.size)
            rw [HCur.out, List.append_assoc, ← HG.out] at ho3
            clear ho2 hb2 hwr
            go_wp2
            go_roundg (k - (j + 1))
            case measure => omega
            case rel => exact ⟨j + 1, by omega, by go_num, by rw [HL.out], ho3, hb3⟩
          · obtain rfl : j = k := by omega
            have HR : Hid (risingBytes l = numBytes j ++ gapBytes (-1) (l.take j)) := by
              show _ = _
              rw [risingBytes, ← HK.out, HRT.out]
            go_wp2
            go_ret
            rw [HR.out, ← List.append_assoc]
            exact ⟨_, rfl, ho, hb⟩
      · go_wp2_with fail
        refine HC.out.mono ?_
        rintro e w1 ⟨v1, rfl, ho1, hb1⟩
        have hdk : k ≤ d := by omega
        go_wp2
        have hab : ∀ j, j < k → lastOf (-1) (l.take j) < l[j]! := by
          intro j hj
          rw [getElem!_pos l j (by omega)]
          exact rise_above (by rw [← HK.out]; exact hj) (by omega)
        have hlg : ∀ j, j ≤ k → -1 ≤ lastOf (-1) (l.take j) := fun j hj => rise_last_ge l j (by rw [← HK.out]; exact hj)
        have HAB := Lib.hid hab
        have HLG := Lib.hid hlg
        clear hab hlg HC
        obtain ⟨w0, rfl⟩ : ∃ w0 : World, w0 = wr := ⟨_, rfl⟩
        go_loopg [6, 7, 35] k (fun r last v7 i wz => ∃ j : Nat, j + r = k ∧ i = .int .i64 j ∧ last = .int .i64 (lastOf (-1) (l.take j)) ∧ OB wz w0.heap.size v7 ((bs ++ numBytes k) ++ gapBytes (-1) (l.take j)) ∧ Below w0.heap.size w0 wz)
        case atStart => exact ⟨0, by omega, rfl, rfl, by simpa [gapBytes] using ho1, hb1⟩
        case round =>
          clear ho1 hb1
          obtain ⟨j, hj, rfl, rfl, ho, hb⟩ := hrel
          by_cases hjk : j < k
          · have hjl : j < l.length := by omega
            obtain ⟨_, e, hc⟩ := Lies.at (hs.below hb) (k := j) (by simp; omega)
            cases e
            rw [List.getElem_map] at hc
            have h1 := HAB.out j hjk
            rw [getElem!_pos l j hjl] at h1
            have h2 := HLG.out j (by omega)
            have h3 := (hl _ (List.getElem_mem hjl)).2
            have HG : Hid (gapBytes (-1) (l.take (j + 1)) = gapBytes (-1) (l.take j) ++ numBytes (l[j] - lastOf (-1) (l.take j) - 1).toNat) := by
              show _ = _
              rw [List.take_succ_eq_append_getElem hjl, gapBytes_snoc]
            have HL : Hid (lastOf (-1) (l.take (j + 1)) = l[j]) := by
              show _ = _
              rw [List.take_succ_eq_append_getElem hjl, lastOf_snoc]
            have hgl := gapBytes_le (l.take j) (-1)
            rw [List.length_take, Nat.min_eq_left (by omega)] at hgl
            generalize lastOf (-1) (l.take j) = last at h1 h2 HG ⊢
            generalize hxe : l[j] = x at hc h1 h3 HG HL
            clear hxe
            have hwr := gap_of h1 h2 h3
            have hlen : ((bs ++ numBytes k) ++ gapBytes (-1) (l.take j)).length ≤ bs.length + 9 + 9 * j := by simp only [List.length_append]; omega
            obtain ⟨cur, hcur⟩ : ∃ cur, cur = (bs ++ numBytes k) ++ gapBytes (-1) (l.take j) := ⟨_, rfl⟩
            rw [← hcur] at ho hlen
            have HCur := Lib.hid hcur
            clear hcur
            obtain ⟨A1, c1, rfl, hl1, hA1⟩ := ho.form
            have hns : numNat (x - last - 1) = (x - last - 1).toNat := by unfold numNat; omega
            have HC := num_any A1 c1 _ (x - last - 1) wr (by omega) (by omega) hA1 hl1 (RB.of_own ho)
            rw [hns] at HC
            have HC2 := Lib.hid HC
            clear HC hns
            go_wp2_with fail
            refine HC2.out.mono ?_
            rintro e w2 ⟨v2, rfl, ho2, hb2⟩
            have ho3 := ho2.mono hb.size
            have hb3 := hb.trans (hb2.mono hb.size)
            rw [HCur.out, List.append_assoc, ← HG.out] at ho3
            clear ho2 hb2 hwr
            go_wp2
            go_roundg (k - (j + 1))
            case measure => omega
            case rel => exact ⟨j + 1, by omega, by go_num, by rw [HL.out], ho3, hb3⟩
          · obtain rfl : j = k := by omega
            have HR : Hid (risingBytes l = numBytes j ++ gapBytes (-1) (l.take j)) := by
              show _ = _
              rw [risingBytes, ← HK.out, HRT.out]
            go_wp2
            go_ret
            rw [HR.out, ← List.append_assoc]
            exact ⟨_, rfl, ho, hb⟩
end Go.Proofs.Ytbeejmedekgjjaa
