/- The walks of the document's writers of a text, and of numbers that rise. -/
import Derived.Test.YtbeejmedekgjjaaCoK
import Derived.Lib.ConvBytes
import Derived.Lib.SmallJoins
import Derived.BigRegion
import Derived.Handy
import Derived.BigQuiet
import Derived.Deep.QuietTactic
namespace Go.Proofs.Ytbeejmedekgjjaa
open Go.RowKit
set_option linter.unusedVariables false
set_option linter.unusedSimpArgs false
theorem rb_bytes (w : World) (s : ByteArray) : RB (Lib.bytesWorld w 5 s) (some ⟨w.heap.size, 0, none⟩) s.data.toList := by
  intro k v hk
  refine ⟨_, rfl, ?_⟩
  have hks : k < s.size := by
    rcases Nat.lt_or_ge k s.size with h | h
    · exact h
    · rw [List.getElem?_eq_none (by simpa using h)] at hk; cases hk
  rw [Addr.add_lit, Nat.zero_add, Lib.bytesWorld_cell w _ s k hks]
  rw [List.getElem?_map] at hk
  have hg : s.data.toList[k]? = some (s.data.toList.getD k 0) := by
    rw [List.getD_eq_getElem?_getD, List.getElem?_eq_getElem (by rw [Array.length_toList]; exact hks)]; rfl
  rw [hg] at hk
  simp only [Option.map_some, Option.some.injEq] at hk
  rw [← hk]; rfl
set_option maxHeartbeats 800000 in
theorem rtext_any (A : Option Addr) (c : Nat) (bs : List UInt8) (s : ByteArray) (w : World) (hm : bs.length + s.size ≤ 140737488355000) (hA : A = none → c = 0) (hr : RB w A bs) :
    Calls Try.prog 26 #[.slice A bs.length c, .string s] w fun e w' => ∃ v, e = .returned v ∧ OB w' w.heap.size v (bs ++ textBytes s.data.toList) ∧ Below w.heap.size w w' := by
  have kc := fun (w : World) => Lib.run_convert_string_bytes (P := Try.prog) w 9 23 5 s Try.underlying9 Try.underlying23 Try.underlying5
  have hsz : s.data.toList.length = s.size := by rw [Array.length_toList]; rfl
  have hns : numNat (s.size : Int) = s.size := by unfold numNat; omega
  have hnl : (numBytes s.size).length ≤ 9 := by rw [numBytes_length]; have := need_le s.size; omega
  have HC := rnum_any A c bs (s.size : Int) w (by omega) (by omega) hA hr
  rw [hns] at HC
  have HC := Lib.hid HC
  have HT : Hid (bs ++ textBytes s.data.toList = (bs ++ numBytes s.size) ++ s.data.toList) := by show _ = _; rw [textBytes, hsz, List.append_assoc]
  have hll : (bs ++ numBytes s.size).length ≤ bs.length + 9 := by rw [List.length_append]; omega
  clear hns
  generalize bs ++ numBytes s.size = xs at HC HT hll
  rw [HT.out]
  have hsz2 := Lib.hid hsz
  clear hsz
  go_enter Try.func26, Try.ntmps26
  go_wp2_with fail
  refine HC.out.mono ?_
  rintro e w1 ⟨v1, rfl, ho, hb⟩
  obtain ⟨A1, c1, rfl, hl1, hA1⟩ := ho.form
  have r1 := (RB.of_own ho).below (Joins.below_bytesWorld w1.heap.size w1 5 s (Nat.le_refl _))
  have r2 := rb_bytes w1 s
  have hb1 := hb.trans (Joins.below_bytesWorld w.heap.size w1 5 s hb.size)
  have HJ := join_any A1 (some ⟨w1.heap.size, 0, none⟩) c1 (grownCap w1 s.size 0 5) xs s.data.toList _ (by rw [hsz2.out]; omega) hA1 (by simp) r1 r2
  rw [hsz2.out] at HJ
  have HJ := Lib.hid HJ
  clear ho hb
  go_wp2_with fail
  refine HJ.out.mono ?_
  rintro e w2 ⟨v2, rfl, ho2, hb2⟩
  go_wp2
  go_ret
  exact ⟨_, rfl, ho2.mono hb1.size, hb1.trans (hb2.mono hb1.size)⟩
theorem lastOf_take {l : List Int} {i : Nat} (hi : i < l.length) : lastOf (-1) (l.take (i + 1)) = l[i] := by
  rw [List.take_succ_eq_append_getElem hi, lastOf_snoc]
set_option maxHeartbeats 1600000 in
theorem rrising_any (A B : Option Addr) (c d : Nat) (bs : List UInt8) (l : List Int) (w : World) (hm : bs.length + 9 * l.length ≤ 140737488355000) (hA : A = none → c = 0) (hld : l.length ≤ d)
    (hl : ∀ z ∈ l, -9223372036854775808 ≤ z ∧ z ≤ 9223372036854775807) (hr : RB w A bs) (hs : Lies w B (l.map (Value.int .i64))) :
    Calls Try.prog 25 #[.slice A bs.length c, .slice B l.length d] w fun e w' => ∃ v, e = .returned v ∧ OB w' w.heap.size v (bs ++ risingBytes l) ∧ Below w.heap.size w w' := by
  have hrl := rise_length_le l
  obtain ⟨R, hR⟩ : ∃ R, R = (rise l).length := ⟨_, rfl⟩
  have hstep : ∀ k (hl : k < l.length), k ≤ R → (k < R ↔ lastOf (-1) (l.take k) < l[k]) := fun k hl hk => by rw [hR] at hk ⊢; exact rise_step hk hl
  have hge : ∀ k, k ≤ R → -1 ≤ lastOf (-1) (l.take k) := fun k hk => rise_last_ge l k (by rw [← hR]; exact hk)
  have HRT : Hid (risingBytes l = numBytes R ++ gapBytes (-1) (l.take R)) := by show _ = _; rw [risingBytes, hR]; conv => lhs; rw [rise_eq_take l]; skip; rw [List.length_take, Nat.min_eq_left hrl]
  rw [← hR] at hrl
  clear hR
  have HS := Lib.hid hstep
  have HG := Lib.hid hge
  clear hstep hge
  rw [HRT.out]
  go_enter Try.func25, Try.ntmps25
  go_wp2
  go_loopg [5, 12] l.length (fun r n i wr => wr = w ∧ ∃ k : Nat, k + r = l.length ∧ i = .int .i64 k ∧ n = .int .i64 (min k R : Nat))
  case atStart => exact ⟨rfl, 0, by omega, rfl, by simp⟩
  case round =>
    obtain ⟨rfl, k, hk, rfl, rfl⟩ := hrel
    by_cases hkl : k < l.length
    · obtain ⟨a, rfl, hc⟩ := Lies.at hs (k := k) (by simpa using hkl)
      rw [List.getElem_map] at hc
      have hzb := hl _ (List.getElem_mem hkl)
      by_cases hkR : k ≤ R
      · have hst := HS.out k hkl hkR
        have hgl := HG.out k hkR
        have e1 : min k R = k := Nat.min_eq_left hkR
        rw [e1]
        by_cases hup : k < R
        · have hup2 := hst.1 hup
          have e2 : min (k + 1) R = k + 1 := Nat.min_eq_left (by omega)
          by_cases hk0 : k = 0
          · subst hk0
            have hx0 : 0 ≤ l[0] := by simp only [List.take_zero, lastOf_nil] at hup2; omega
            generalize hxe : l[0] = x at hc hzb hx0
            clear hxe hst hgl hup2
            rw [Addr.add_zero'] at hc
            go_wp2
            go_roundg (l.length - (0 + 1))
            case measure => omega
            case rel => exact ⟨rfl, 1, by omega, rfl, by rw [e2]; go_num⟩
          · obtain ⟨_, e, hc2⟩ := Lies.at hs (k := k - 1) (by simp; omega)
            cases e
            rw [List.getElem_map] at hc2
            have hlt : lastOf (-1) (l.take k) = l[k - 1] := by
              have := lastOf_take (l := l) (i := k - 1) (by omega)
              rwa [show k - 1 + 1 = k by omega] at this
            rw [hlt] at hup2 hgl
            generalize hxe : l[k] = x at hc hzb hup2
            generalize hye : l[k - 1] = y at hc2 hup2 hgl
            clear hxe hye hst hlt
            have hq : ((k : Int) == 0) = false := beq_eq_false_iff_ne.mpr (by omega)
            have hsub : ((k : Int) - 1) = ((k - 1 : Nat) : Int) := by omega
            go_wp2
            go_roundg (l.length - (k + 1))
            case measure => omega
            case rel => exact ⟨rfl, k + 1, by omega, by go_num, by rw [e2]; go_num⟩
        · have hkR2 : k = R := by omega
          have hup2 : ¬ lastOf (-1) (l.take k) < l[k] := fun h => hup (hst.2 h)
          have e2 : min (k + 1) R = k := by omega
          clear hkR2
          by_cases hx0 : 0 ≤ l[k]
          · have hk0 : k ≠ 0 := by
              rintro rfl
              simp only [List.take_zero, lastOf_nil] at hup2; omega
            obtain ⟨_, e, hc2⟩ := Lies.at hs (k := k - 1) (by simp; omega)
            cases e
            rw [List.getElem_map] at hc2
            have hlt : lastOf (-1) (l.take k) = l[k - 1] := by
              have := lastOf_take (l := l) (i := k - 1) (by omega)
              rwa [show k - 1 + 1 = k by omega] at this
            rw [hlt] at hup2 hgl
            generalize hxe : l[k] = x at hc hzb hup2 hx0
            generalize hye : l[k - 1] = y at hc2 hup2 hgl
            clear hxe hye hst hlt
            have hq : ((k : Int) == 0) = false := beq_eq_false_iff_ne.mpr (by omega)
            have hsub : ((k : Int) - 1) = ((k - 1 : Nat) : Int) := by omega
            go_wp2
            go_roundg (l.length - (k + 1))
            case measure => omega
            case rel => exact ⟨rfl, k + 1, by omega, by go_num, by rw [e2]⟩
          · generalize hxe : l[k] = x at hc hzb hx0
            clear hxe hst hgl hup2
            go_wp2
            go_roundg (l.length - (k + 1))
            case measure => omega
            case rel => exact ⟨rfl, k + 1, by omega, by go_num, by rw [e2]⟩
      · have e1 : min k R = R := Nat.min_eq_right (by omega)
        have e2 : min (k + 1) R = R := Nat.min_eq_right (by omega)
        rw [e1]
        have hq : ((R : Int) == (k : Int)) = false := beq_eq_false_iff_ne.mpr (by omega)
        generalize hxe : l[k] = x at hc hzb
        clear hxe
        go_wp2
        go_roundg (l.length - (k + 1))
        case measure => omega
        case rel => exact ⟨rfl, k + 1, by omega, by go_num, by rw [e2]⟩
    · obtain rfl : k = l.length := by omega
      rw [Nat.min_eq_right hrl]
      have hns : numNat (R : Int) = R := by unfold numNat; omega
      have hnl : (numBytes R).length ≤ 9 := by rw [numBytes_length]; have := need_le R; omega
      have HC := rnum_any A c bs (R : Int) wr (by omega) (by omega) hA hr
      rw [hns] at HC
      have HC := Lib.hid HC
      clear hns
      go_wp2_with fail
      refine HC.out.mono ?_
      rintro e w1 ⟨v1, rfl, ho1, hb1⟩
      go_wp2
      obtain ⟨w0, rfl⟩ : ∃ w0 : World, w0 = wr := ⟨_, rfl⟩
      go_loopg [8, 44] R (fun r v i wz => ∃ j : Nat, j + r = R ∧ i = .int .i64 j ∧ OB wz w0.heap.size v ((bs ++ numBytes R) ++ gapBytes (-1) (l.take j)) ∧ Below w0.heap.size w0 wz)
      case atStart => exact ⟨0, by omega, rfl, by simpa [gapBytes] using ho1, hb1⟩
      case round =>
        clear ho1 hb1
        obtain ⟨j, hj, rfl, ho, hb⟩ := hrel
        by_cases hjk : j < R
        · have hjl : j < l.length := by omega
          obtain ⟨a, rfl, hc⟩ := Lies.at (hs.below hb) (k := j) (by simp; omega)
          rw [List.getElem_map] at hc
          have h1 := (HS.out j hjl (by omega)).1 hjk
          have h2 := HG.out j (by omega)
          have h3 := (hl _ (List.getElem_mem hjl)).2
          have HGap : Hid (gapBytes (-1) (l.take (j + 1)) = gapBytes (-1) (l.take j) ++ numBytes (l[j] - lastOf (-1) (l.take j) - 1).toNat) := by
            show _ = _
            rw [List.take_succ_eq_append_getElem hjl, gapBytes_snoc]
          have hgl := gapBytes_le (l.take j) (-1)
          rw [List.length_take, Nat.min_eq_left (by omega)] at hgl
          have hlen : ((bs ++ numBytes R) ++ gapBytes (-1) (l.take j)).length ≤ bs.length + 9 + 9 * j := by simp only [List.length_append]; omega
          obtain ⟨cur, hcur⟩ : ∃ cur, cur = (bs ++ numBytes R) ++ gapBytes (-1) (l.take j) := ⟨_, rfl⟩
          rw [← hcur] at ho hlen
          have HCur := Lib.hid hcur
          clear hcur
          obtain ⟨A1, c1, rfl, hl1, hA1⟩ := ho.form
          by_cases hj0 : j = 0
          · subst hj0
            have e0 : lastOf (-1) (l.take 0) = -1 := rfl
            rw [e0] at h1 HGap
            generalize hxe : l[0] = x at hc h1 h3 HGap
            clear hxe h2 e0
            have hns : numNat x = (x - -1 - 1).toNat := by unfold numNat; omega
            have HC := rnum_any A1 c1 _ x wr (by omega) (by omega) hA1 (RB.of_own ho)
            rw [hns] at HC
            have HC2 := Lib.hid HC
            clear HC hns
            rw [Addr.add_zero'] at hc
            go_wp2_with fail
            refine HC2.out.mono ?_
            rintro e w2 ⟨v2, rfl, ho2, hb2⟩
            have ho3 := ho2.mono hb.size
            have hb3 := hb.trans (hb2.mono hb.size)
            rw [HCur.out, List.append_assoc, ← HGap.out] at ho3
            clear ho2 hb2
            go_wp2
            go_roundg (R - (0 + 1))
            case measure => omega
            case rel => exact ⟨1, by omega, rfl, ho3, hb3⟩
          · obtain ⟨_, e, hc2⟩ := Lies.at (hs.below hb) (k := j - 1) (by simp; omega)
            cases e
            rw [List.getElem_map] at hc2
            have hlt : lastOf (-1) (l.take j) = l[j - 1] := by
              have := lastOf_take (l := l) (i := j - 1) (by omega)
              rwa [show j - 1 + 1 = j by omega] at this
            rw [hlt] at h1 h2 HGap
            have hy0 : 0 ≤ l[j - 1] := by
              have k1 := (HS.out (j - 1) (by omega) (by omega)).1 (by omega)
              have k2 := HG.out (j - 1) (by omega)
              omega
            generalize hxe : l[j] = x at hc h1 h3 HGap
            generalize hye : l[j - 1] = y at hc2 h1 h2 HGap hy0
            clear hxe hye hlt
            have hq : ((j : Int) == 0) = false := beq_eq_false_iff_ne.mpr (by omega)
            have hsub : ((j : Int) - 1) = ((j - 1 : Nat) : Int) := by omega
            have hw1 : IntKind.i64.wrap ((j - 1 : Nat) : Int) = ((j - 1 : Nat) : Int) := by go_arith
            have hi0 : 0 ≤ ((j - 1 : Nat) : Int) := Int.natCast_nonneg _
            have hi1 : ((j - 1 : Nat) : Int) < l.length := by omega
            have hj1 : ((j : Nat) : Int) < l.length := by omega
            have hwr1 : IntKind.i64.wrap (x - y) = x - y := by go_arith
            have hwr2 : IntKind.i64.wrap (x - y - 1) = x - y - 1 := by go_arith
            have hns : numNat (x - y - 1) = (x - y - 1).toNat := by unfold numNat; omega
            have HC := fun n => rnum_any A1 c1 cur (x - y - 1) (wr.drewN n) (by omega) (by omega) hA1 (RB.of_own ho)
            rw [hns] at HC
            have HC2 := Lib.hid HC
            clear HC hns
            go_wp2_with fail
            go_region_with (go_at_call 24; refine (HC2.out 1).mono ?_; rintro e w2 ⟨v2, rfl, ho2, hb2⟩)
            all_goals
              have ho3 := ho2.mono (base' := w0.heap.size) (by have := hb.size; simp; omega)
              have hb3 := hb.trans (((Below.refl _ _).drew).trans (hb2.mono (by have := hb.size; simp; omega)))
              rw [HCur.out, List.append_assoc, ← HGap.out] at ho3
              clear ho2 hb2
              go_wp2
              go_roundg (R - (j + 1))
              case measure => omega
              case rel => exact ⟨j + 1, by omega, by go_num, ho3, hb3⟩
        · obtain rfl : j = R := by omega
          go_wp2
          go_ret
          rw [← List.append_assoc]
          exact ⟨_, rfl, ho, hb⟩
end Go.Proofs.Ytbeejmedekgjjaa
