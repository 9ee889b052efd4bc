/- The walks of the document's own writers. -/
import Derived.Test.YtjfpanamkkdebaaCoS
namespace Go.Proofs.Ytjfpanamkkdebaa
open Go.RowKit
set_option linter.unusedVariables false
set_option linter.unusedSimpArgs false
set_option maxHeartbeats 1600000 in
theorem rbytes_any (x : Nat) (w : World) (hx : x < 18446744073709551616) :
    Calls Try.prog 80 #[.int .u64 x] w fun e w' => ∃ v, e = .returned v ∧ OB w' w.heap.size v (numBytes x) ∧ Below w.heap.size w w' := by
  have HML : Hid (maxLen = 9223372036854775807) := rfl
  have HN : Hid (needUp x 9 = need x) := needUp_nine hx
  go_enter Try.func80, Try.ntmps80
  go_wp2
  go_loopg [3, 9] 9 (fun r n i wr => wr = w ∧ ∃ j : Nat, j + r = 9 ∧ i = .int .i64 j ∧ n = .int .i64 (needUp x j))
  case atStart => exact ⟨rfl, 0, by omega, rfl, rfl⟩
  case round =>
    obtain ⟨rfl, j, hj, rfl, rfl⟩ := hrel
    by_cases hj9 : j < 9
    · have HU : Hid (needUp x (j + 1) = if j < 8 ∧ x / 2 ^ (7 + 7 * j) ≠ 0 then j + 1 else needUp x j) := rfl
      by_cases hj8 : j < 8
      · by_cases hz : x / 2 ^ (7 + 7 * j) = 0
        · have hq : ((x : Int) / 2 ^ (7 + 7 * j) != 0) = false := by
            rw [show ((x : Int) / 2 ^ (7 + 7 * j)) = ((x / 2 ^ (7 + 7 * j) : Nat) : Int) by simp, hz]; rfl
          have HZ := Lib.hid hz
          clear hz
          go_wp2
          go_roundg (9 - (j + 1))
          case measure => omega
          case rel => exact ⟨rfl, j + 1, by omega, by go_num, by rw [HU.out, if_neg (fun h => h.2 HZ.out)]⟩
        · have hq : ((x : Int) / 2 ^ (7 + 7 * j) != 0) = true := by
            rw [show ((x : Int) / 2 ^ (7 + 7 * j)) = ((x / 2 ^ (7 + 7 * j) : Nat) : Int) by simp]
            generalize x / 2 ^ (7 + 7 * j) = y at hz
            exact bne_iff_ne.mpr (by omega)
          have HZ := Lib.hid hz
          clear hz
          go_wp2
          go_roundg (9 - (j + 1))
          case measure => omega
          case rel => exact ⟨rfl, j + 1, by omega, by go_num, by rw [HU.out, if_pos ⟨hj8, HZ.out⟩]; go_num⟩
      · have hq : decide ((j : Int) < 8) = false := decide_eq_false (by omega)
        have H8 := Lib.hid hj8
        clear hj8
        go_wp2
        go_roundg (9 - (j + 1))
        case measure => omega
        case rel => exact ⟨rfl, j + 1, by omega, by go_num, by rw [HU.out, if_neg (fun h => H8.out h.1)]⟩
    · obtain rfl : j = 9 := by omega
      have hk := need_le x
      obtain ⟨k, hk0⟩ : ∃ k, k = need x := ⟨_, rfl⟩
      rw [← hk0] at hk
      have HK := Lib.hid hk0
      rw [HN.out, ← hk0]
      have hhl := headNum_lt hx
      have HH : Hid (headNum x = (256 - 2 ^ (8 - k)) + if k < 8 then x / 256 ^ k else 0) := by rw [hk0]; rfl
      have HNB : Hid (numBytes x = UInt8.ofNat (headNum x) :: tailBytes x k) := by rw [hk0]; rfl
      clear hk0 HN
      go_wp2
      go_loopg [5, 26] k (fun r f i wz => wz = wr ∧ ∃ j : Nat, j + r = k ∧ i = .int .i64 j ∧ f = .int .i64 ((256 - 2 ^ (8 - j) : Nat) : Int))
      case atStart => exact ⟨rfl, 0, by omega, rfl, rfl⟩
      case round =>
        obtain ⟨rfl, j, hj, rfl, rfl⟩ := hrel
        by_cases hjk : j < k
        · have h1 := ones_step (i := j) (by omega)
          have h2 := Nat.two_pow_pos (8 - (j + 1))
          generalize hP : 256 - 2 ^ (8 - j) = p at h1 ⊢
          have HP : Hid (256 - 2 ^ (8 - (j + 1)) = p + 128 / 2 ^ j) := h1.symm
          have hpl : p + 128 / 2 ^ j ≤ 256 := by rw [h1]; omega
          have HC : Hid (((128 : Int) / 2 ^ j) = ((128 / 2 ^ j : Nat) : Int)) := by show _ = _; simp
          have hc0 : (0 : Int) ≤ 128 / 2 ^ j := by rw [HC.out]; exact Int.natCast_nonneg _
          have hc1 : (p : Int) + 128 / 2 ^ j ≤ 256 := by rw [HC.out, ← Int.natCast_add]; exact Int.ofNat_le.2 hpl
          clear h1 h2 hP hpl
          go_wp2
          go_roundg (k - (j + 1))
          case measure => omega
          case rel => exact ⟨rfl, j + 1, by omega, by go_num, by rw [HP.out, HC.out, Int.natCast_add]⟩
        · obtain rfl : j = k := by omega
          have HX : Hid (j < 8 → ((x : Int) / 2 ^ (8 * j)) = ((x / 256 ^ j : Nat) : Int) ∧ x / 256 ^ j ≤ 128) := by
            intro h
            have hj8 : j = need x := by
              have := HNB.out
              rw [numBytes] at this
              have h2 := congrArg List.length this
              simp only [List.length_cons, tailBytes_length] at h2
              omega
            refine ⟨by rw [show (256 : Nat) = 2 ^ 8 from rfl, ← Nat.pow_mul]; simp, ?_⟩
            have h3 := high_lt hx (by omega : need x < 8)
            have h4 : 2 ^ (7 - need x) ≤ 2 ^ 7 := Nat.pow_le_pow_right (by decide) (by omega)
            rw [hj8]
            omega
          have hp2 := Nat.two_pow_pos (8 - j)
          by_cases h8 : j < 8
          · have hq : decide ((j : Int) < 8) = true := decide_eq_true (by omega)
            obtain ⟨hx1, hx2⟩ := HX.out h8
            have hx3 : (0 : Int) ≤ (x : Int) / 2 ^ (8 * j) := by rw [hx1]; exact Int.natCast_nonneg _
            have hx4 : (x : Int) / 2 ^ (8 * j) ≤ 128 := by rw [hx1]; exact Int.ofNat_le.2 hx2
            have HV : Hid (Value.int .u8 ((((256 - 2 ^ (8 - j) : Nat) : Int) + (x : Int) / 2 ^ (8 * j)) % 256) = vb (UInt8.ofNat (headNum x))) := by
              show _ = _
              rw [vb_ofNat, HH.out, if_pos h8, hx1]
              rfl
            clear hx1 hx2
            go_wp2
            rw [HV.out]
            have ho : OB (wr.alloc (.cells #[vb (UInt8.ofNat (headNum x))] 5)) wr.heap.size (.slice (some ⟨wr.heap.size, 0, none⟩) 1 1) [UInt8.ofNat (headNum x)] := World.ownsRow_lit wr _ 1 (Nat.le_refl _) (by decide) rfl
            have hb : Below wr.heap.size wr (wr.alloc (.cells #[vb (UInt8.ofNat (headNum x))] 5)) := (Below.refl _ _).alloc (Nat.le_refl _) _
            generalize wr.alloc (.cells #[vb (UInt8.ofNat (headNum x))] 5) = W at ho hb ⊢
            obtain ⟨w0, rfl⟩ : ∃ w0 : World, w0 = wr := ⟨_, rfl⟩
            go_loopg [7, 47] j (fun r v i wz => ∃ m : Nat, m + r = j ∧ i = .int .i64 m ∧ OB wz w0.heap.size v (UInt8.ofNat (headNum x) :: (tailBytes x j).take m) ∧ Below w0.heap.size w0 wz)
            case atStart => exact ⟨0, by omega, rfl, ho, hb⟩
            case round =>
              clear ho hb
              obtain ⟨m, hm, rfl, hov, hbv⟩ := hrel
              by_cases hmj : m < j
              · have HT : Hid ((tailBytes x j).take (m + 1) = (tailBytes x j).take m ++ [UInt8.ofNat (x / 256 ^ (j - 1 - m))]) := tailBytes_snoc hmj
                have HB : Hid (Value.int .u8 ((x : Int) / 2 ^ (8 * (j - 1 - m)) % 256) = vb (UInt8.ofNat (x / 256 ^ (j - 1 - m)))) := by
                  show _ = _
                  rw [vb_ofNat, show (256 : Nat) = 2 ^ 8 from rfl, ← Nat.pow_mul]
                  simp
                have hl : (UInt8.ofNat (headNum x) :: (tailBytes x j).take m).length ≤ 10 := by simp; omega
                have hsub : ((j : Int) - 1 - m) = ((j - 1 - m : Nat) : Int) := by omega
                generalize (tailBytes x j).take m = pre at hov HT hl
                have hol := hov
                unfold OB at hol
                go_wp2_with (at_builtin; (refine wpList_app _ rfl _ _ 29 rfl w0.heap.size 5 _ 1 1 Try.underlying29 info_u8 rfl (by decide) _ _ _ rfl (World.ownsRow.alloc hol _) (some ⟨wr.heap.size, 0, none⟩) 1 1 _ rfl rfl (Lies.new wr 5 _ (0, 0)) (by intro u hu; cases List.mem_singleton.1 hu; rfl) (by simp) ?c1 ?c2 ?c3 ?_))
                case c1 => rw [HML.out]; omega
                case c2 => omega
                case c3 => have := hbv.size; simp; omega
                intro v2 w2 hown2 hg2 _
                rw [HB.out] at hown2
                have ho2 : OB w2 w0.heap.size v2 (UInt8.ofNat (headNum x) :: (pre ++ [UInt8.ofNat (x / 256 ^ (j - 1 - m))])) := OB.mk hown2 (by simp) (by simp)
                have hb2 := (hbv.alloc hbv.size _).grown hg2 (by have := hbv.size; simp; omega) (by intro q hq; exact (World.ownsRow.lt hol q hq).1)
                clear hsub hown2 hg2
                go_wp2
                go_roundg (j - (m+1))
                case measure => omega
                case rel => exact ⟨m+1, by omega, by go_num, by rw [HT.out]; exact ho2, hb2⟩
              · obtain rfl : m = j := by omega
                go_wp2
                go_ret
                rw [HNB.out]
                rw [List.take_of_length_le (by rw [tailBytes_length]; omega)] at hov
                exact ⟨_, rfl, hov, hbv⟩
          · have hq : decide ((j : Int) < 8) = false := decide_eq_false (by omega)
            have HV : Hid (Value.int .u8 ((256 - 2 ^ (8 - j) : Nat) : Int) = vb (UInt8.ofNat (headNum x))) := by
              show _ = _
              rw [vb_ofNat, HH.out, if_neg h8]
              congr 1
              omega
            go_wp2
            rw [HV.out]
            have ho : OB (wr.alloc (.cells #[vb (UInt8.ofNat (headNum x))] 5)) wr.heap.size (.slice (some ⟨wr.heap.size, 0, none⟩) 1 1) [UInt8.ofNat (headNum x)] := World.ownsRow_lit wr _ 1 (Nat.le_refl _) (by decide) rfl
            have hb : Below wr.heap.size wr (wr.alloc (.cells #[vb (UInt8.ofNat (headNum x))] 5)) := (Below.refl _ _).alloc (Nat.le_refl _) _
            generalize wr.alloc (.cells #[vb (UInt8.ofNat (headNum x))] 5) = W at ho hb ⊢
            obtain ⟨w0, rfl⟩ : ∃ w0 : World, w0 = wr := ⟨_, rfl⟩
            go_loopg [7, 47] j (fun r v i wz => ∃ m : Nat, m + r = j ∧ i = .int .i64 m ∧ OB wz w0.heap.size v (UInt8.ofNat (headNum x) :: (tailBytes x j).take m) ∧ Below w0.heap.size w0 wz)
            case atStart => exact ⟨0, by omega, rfl, ho, hb⟩
            case round =>
              clear ho hb
              obtain ⟨m, hm, rfl, hov, hbv⟩ := hrel
              by_cases hmj : m < j
              · have HT : Hid ((tailBytes x j).take (m + 1) = (tailBytes x j).take m ++ [UInt8.ofNat (x / 256 ^ (j - 1 - m))]) := tailBytes_snoc hmj
                have HB : Hid (Value.int .u8 ((x : Int) / 2 ^ (8 * (j - 1 - m)) % 256) = vb (UInt8.ofNat (x / 256 ^ (j - 1 - m)))) := by
                  show _ = _
                  rw [vb_ofNat, show (256 : Nat) = 2 ^ 8 from rfl, ← Nat.pow_mul]
                  simp
                have hl : (UInt8.ofNat (headNum x) :: (tailBytes x j).take m).length ≤ 10 := by simp; omega
                have hsub : ((j : Int) - 1 - m) = ((j - 1 - m : Nat) : Int) := by omega
                generalize (tailBytes x j).take m = pre at hov HT hl
                have hol := hov
                unfold OB at hol
                go_wp2_with (at_builtin; (refine wpList_app _ rfl _ _ 29 rfl w0.heap.size 5 _ 1 1 Try.underlying29 info_u8 rfl (by decide) _ _ _ rfl (World.ownsRow.alloc hol _) (some ⟨wr.heap.size, 0, none⟩) 1 1 _ rfl rfl (Lies.new wr 5 _ (0, 0)) (by intro u hu; cases List.mem_singleton.1 hu; rfl) (by simp) ?c1 ?c2 ?c3 ?_))
                case c1 => rw [HML.out]; omega
                case c2 => omega
                case c3 => have := hbv.size; simp; omega
                intro v2 w2 hown2 hg2 _
                rw [HB.out] at hown2
                have ho2 : OB w2 w0.heap.size v2 (UInt8.ofNat (headNum x) :: (pre ++ [UInt8.ofNat (x / 256 ^ (j - 1 - m))])) := OB.mk hown2 (by simp) (by simp)
                have hb2 := (hbv.alloc hbv.size _).grown hg2 (by have := hbv.size; simp; omega) (by intro q hq; exact (World.ownsRow.lt hol q hq).1)
                clear hsub hown2 hg2
                go_wp2
                go_roundg (j - (m+1))
                case measure => omega
                case rel => exact ⟨m+1, by omega, by go_num, by rw [HT.out]; exact ho2, hb2⟩
              · obtain rfl : m = j := by omega
                go_wp2
                go_ret
                rw [HNB.out]
                rw [List.take_of_length_le (by rw [tailBytes_length]; omega)] at hov
                exact ⟨_, rfl, hov, hbv⟩
end Go.Proofs.Ytjfpanamkkdebaa
