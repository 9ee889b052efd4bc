/- The walks of the coder's writers. -/
import Derived.Test.YtjfpanamkkdebaaChecked
import Derived.Test.YtjfpanamkkdebaaCoA
import Derived.Test.YtjfpanamkkdebaaBase
import Derived.Test.YtjfpanamkkdebaaLaws
import Derived.Test.YtjfpanamkkdebaaByt
import Derived.Test.YtjfpanamkkdebaaBits
import Derived.WalkLawsBesides
import Derived.WalkSpells
import Derived.Outline
import Derived.LoopTactic
import Derived.Lib.Hide
import Derived.Deep.LoopGhost
import Derived.Deep.RegionLaw
import Derived.Deep.AppendLies
namespace Go.Proofs.Ytjfpanamkkdebaa
open Go.RowKit
set_option linter.unusedVariables false
set_option linter.unusedSimpArgs false
theorem need_any (x : Nat) (w : World) (hx : x < 18446744073709551616) :
    Calls Try.prog 76 #[.int .u64 x] w fun e w' => e = .returned (.int .i64 (need x)) ∧ w = w' := by
  have hb : Lib.bitLen x ≤ 64 := by
    by_cases h0 : x = 0
    · subst h0; decide
    · obtain ⟨h1, h2, h3⟩ := bitLen_bounds h0 hx
      by_cases hh : Lib.bitLen x ≤ 64
      · exact hh
      · have : 2 ^ 64 ≤ 2 ^ (Lib.bitLen x - 1) := Nat.pow_le_pow_right (by decide) (by omega)
        omega
  have HN : Hid (need x = if 56 < Lib.bitLen x then 8 else (Lib.bitLen x - 1) / 7) := need_bitLen hx
  have hc := fun w => len64 (x : Int) w (by omega) (by omega)
  rw [Int.toNat_natCast] at hc
  generalize Lib.bitLen x = n at hb HN hc
  go_enter Try.func76, Try.ntmps76
  go_wp2_with (go_at_call 85; refine (hc _).mono ?_; rintro e w' ⟨rfl, rfl⟩)
  · go_ret
    exact ⟨ret_int (by rw [HN.out, if_pos (by omega)]; rfl), rfl⟩
  · go_ret
    exact ⟨ret_int (by rw [HN.out, if_neg (by omega)]; omega), rfl⟩
set_option maxHeartbeats 1600000 in
theorem num_any (A : Option Addr) (c : Nat) (bs : List UInt8) (n : Int) (w : World) (hm : bs.length ≤ 140737488355000) (hn : n ≤ 9223372036854775807) (hA : A = none → c = 0) (hlc : bs.length ≤ c) (hr : RB w A bs) :
    Calls Try.prog 68 #[.slice A bs.length c, .int .i64 n] w fun e w' => ∃ v, e = .returned v ∧ OB w' w.heap.size v (bs ++ numBytes (numNat n)) ∧ Below w.heap.size w w' := by
  have HML : Hid (maxLen = 9223372036854775807) := rfl
  obtain ⟨x, hx⟩ : ∃ x, x = numNat n := ⟨_, rfl⟩
  have hxl : x < 9223372036854775808 := by rw [hx]; exact numNat_lt hn
  have hxn : max n 0 = (x : Int) := by rw [hx, numNat]; omega
  rw [← hx]
  clear hx hn
  have hk := need_le x
  go_enter Try.func68, Try.ntmps68
  go_wp2_with (go_at_call 76; refine (need_any x _ (by omega)).mono ?_; rintro e w' ⟨rfl, rfl⟩)
  obtain ⟨k, hkx⟩ : ∃ k, k = need x := ⟨_, rfl⟩
  rw [← hkx] at hk ⊢
  have HK := Lib.hid hkx
  clear hkx
  go_region_law (refine step_app_new _ rfl (.tmp 19) (.tmp 23) 29 rfl w.heap.size 5 _ 1 1 Try.underlying29 info_u8 rfl (by decide) A bs.length bs.length (bs.map vb) (by simp [Act.eval, Act.put]) rfl hr.none (by simp) (hr.below ((Below.refl _ _).alloc (Nat.le_refl _) _)).drew ⟨w.heap.size, 0, none⟩ 1 1 [.int .u8 (IntKind.u8.wrap (65280 / 2 ^ k))] (by simp [Act.eval, Act.put]) (by decide) rfl (Lies.new w 5 _ (0, 0)).drew (by intro u hu; cases List.mem_singleton.1 hu; rfl) (by rw [HML.out]; omega) (by omega) (by simp) ?_; intro v1 w1 hown hg hne)
  have hb1 : Below w.heap.size w w1 := ((Below.refl _ _).alloc (Nat.le_refl _) _).drew.grown hg (by simp) (by simp)
  obtain ⟨g, c1, rfl, hgw, hlc1⟩ := own_pos hown (by omega)
  have hones := ones_of hk
  have hw8 : (IntKind.u8.wrap (65280 / 2 ^ k) : Int) = ((256 - 2 ^ (8 - k) : Nat) : Int) := by
    rw [← hones, IntKind.wrap_u8]
    simp
  have ho : OB w1 w.heap.size (.slice (some ⟨g, 0, none⟩) (bs.length + 1) c1) (bs ++ [UInt8.ofNat (256 - 2 ^ (8 - k))]) :=
    OB.mk hown (by simp) (by rw [hw8, List.map_append, List.map_singleton, vb_ofNat]; have := Nat.two_pow_pos (8 - k); congr 3; omega)
  have hcell := (RB.of_own ho).at (k := bs.length) (by simp)
  obtain ⟨_, e1, hcell⟩ := hcell
  cases e1
  rw [Addr.add_lit, Nat.zero_add] at hcell
  have hf := World.ownsRow.frozenAt hown bs.length
  simp only [List.getElem_append_right (Nat.le_refl _), Nat.sub_self, List.getElem_cons_zero] at hcell
  clear hw8 hones hown hg hne
  have hxk : k < 8 → x / 256 ^ k < 2 ^ (7 - k) := fun h => by rw [HK.out] at h ⊢; exact high_lt (by omega) h
  have HV : Hid (k < 8 → Value.int .u8 (Go.bits .or .u8 ((256 - 2 ^ (8 - k) : Nat) : Int) ((x : Int) / 2 ^ (8 * k) % 256)) = vb (UInt8.ofNat (headNum x))) := by
    intro h
    have h1 := hxk h
    have h2 : (2 : Nat) ^ (7 - k) ≤ 2 ^ 7 := Nat.pow_le_pow_right (by decide) (by omega)
    have h3 := Nat.two_pow_pos (8 - k)
    have e : ((x : Int) / 2 ^ (8 * k) % 256) = ((x / 256 ^ k : Nat) : Int) := by
      rw [show (256 : Nat) = 2 ^ 8 from rfl, ← Nat.pow_mul] at h1 ⊢
      rw [show ((x : Int) / 2 ^ (8 * k)) = ((x / 2 ^ (8 * k) : Nat) : Int) by simp]
      generalize x / 2 ^ (8 * k) = y at h1 ⊢
      omega
    rw [e, u8_or_nat _ _ (by omega) (by omega), ones_or h h1, vb_ofNat]
    have h4 := headNum_lt (x := x) (by omega)
    have h5 : headNum x = (256 - 2 ^ (8 - k)) + x / 256 ^ k := by rw [headNum, ← HK.out, if_pos h]
    rw [← h5]
    congr 1
    omega
  have HU : Hid (¬ k < 8 → UInt8.ofNat (256 - 2 ^ (8 - k)) = UInt8.ofNat (headNum x)) := by
    intro h
    rw [headNum, ← HK.out, if_neg h, Nat.add_zero]
  clear hxk
  have HTL := Lib.hid (tailBytes_length x k)
  by_cases hk8 : k < 8
  · have hq : decide ((k : Int) < 8) = true := decide_eq_true (by omega)
    go_wp2
    go_region
    all_goals go_wp2
    rw [HV.out hk8]
    have hoW := (ho.set bs.length (UInt8.ofNat (headNum x)) (by simp)).drew
    have hbW := (hb1.setCell (p := ⟨g, bs.length, none⟩) hgw (vb (UInt8.ofNat (headNum x)))).drew
    rw [show (bs ++ [UInt8.ofNat (256 - 2 ^ (8 - k))]).set bs.length (UInt8.ofNat (headNum x)) = bs ++ [UInt8.ofNat (headNum x)] by simp] at hoW
    generalize (w1.setCell ⟨g, bs.length, none⟩ (vb (UInt8.ofNat (headNum x)))).drew = W at hoW hbW ⊢
    clear ho hb1 hcell hf hr
    go_loopg [7, 8] k (fun r v7 i wr => ∃ pre, pre ++ tailBytes x r = tailBytes x k ∧ i = .int .i64 ((r : Int) - 1) ∧ OB wr w.heap.size v7 (bs ++ UInt8.ofNat (headNum x) :: pre) ∧ Below w.heap.size w wr)
    case atStart => exact ⟨[], rfl, rfl, hoW, hbW⟩
    case round =>
      clear hoW hbW
      obtain ⟨pre, hpre, rfl, hov, hbv⟩ := hrel
      have hlen := congrArg List.length hpre
      rw [HTL.out, List.length_append, tailBytes_length] at hlen
      cases gk with
      | zero =>
        have HP : Hid (bs ++ UInt8.ofNat (headNum x) :: pre = bs ++ numBytes x) := by
          simp only [tailBytes, List.append_nil] at hpre
          rw [numBytes, ← HK.out, hpre]; rfl
        clear hpre hlen
        go_wp2
        go_ret
        rw [HP.out] at hov
        exact ⟨_, rfl, hov, hbv⟩
      | succ r =>
        have er : ((r + 1 : Nat) : Int) - 1 = (r : Int) := by omega
        rw [er]
        clear er
        have hl : (bs ++ UInt8.ofNat (headNum x) :: pre).length ≤ bs.length + 9 := by simp; omega
        have hr8 : r ≤ 7 := by omega
        have HPre : Hid ((pre ++ [UInt8.ofNat (x / 256 ^ r)]) ++ tailBytes x r = tailBytes x k) := by
          show _ = _
          rw [← hpre, tailBytes, List.append_assoc]; rfl
        have HB : Hid (Value.int .u8 ((x : Int) / 2 ^ (8 * r) % 256) = vb (UInt8.ofNat (x / 256 ^ r))) := by
          show _ = _
          rw [vb_ofNat, show (256 : Nat) = 2 ^ 8 from rfl, ← Nat.pow_mul]
          simp
        clear hpre hlen
        go_wp2_with (at_builtin; (refine wpList_app _ rfl _ _ 29 rfl w.heap.size 5 _ 1 1 Try.underlying29 info_u8 rfl (by decide) _ _ _ rfl (World.ownsRow.alloc hov _) (some ⟨wr.heap.size, 0, none⟩) 1 1 [.int .u8 ((x : Int) / 2 ^ (8 * r) % 256)] rfl rfl (Lies.new wr 5 _ (0, 0)) (by intro u hu; cases List.mem_singleton.1 hu; rfl) (by simp) ?c1 ?c2 ?c3 ?_))
        case c1 => rw [HML.out]; omega
        case c2 => omega
        case c3 => have := hbv.size; simp; omega
        intro v2 w2 hown2 hg2 _
        rw [HB.out] at hown2
        have ho2 : OB w2 w.heap.size v2 (bs ++ UInt8.ofNat (headNum x) :: (pre ++ [UInt8.ofNat (x / 256 ^ r)])) := OB.mk hown2 (by simp only [List.length_append, List.length_cons, List.length_nil]; omega) (by simp)
        have hb2 := (hbv.alloc hbv.size _).grown hg2 (by have := hbv.size; simp; omega) (by intro j hj; exact (World.ownsRow.lt hov j hj).1)
        go_wp2
        go_roundg r
        case measure => omega
        case rel => exact ⟨_, HPre.out, by go_num, ho2, hb2⟩
  · have hq : decide ((k : Int) < 8) = false := decide_eq_false (by omega)
    go_wp2
    have hoW := ho
    rw [HU.out hk8] at hoW
    have hbW := hb1
    clear ho hb1 hcell hf hr
    go_loopg [7, 8] k (fun r v7 i wr => ∃ pre, pre ++ tailBytes x r = tailBytes x k ∧ i = .int .i64 ((r : Int) - 1) ∧ OB wr w.heap.size v7 (bs ++ UInt8.ofNat (headNum x) :: pre) ∧ Below w.heap.size w wr)
    case atStart => exact ⟨[], rfl, rfl, hoW, hbW⟩
    case round =>
      clear hoW hbW
      obtain ⟨pre, hpre, rfl, hov, hbv⟩ := hrel
      have hlen := congrArg List.length hpre
      rw [HTL.out, List.length_append, tailBytes_length] at hlen
      cases gk with
      | zero =>
        have HP : Hid (bs ++ UInt8.ofNat (headNum x) :: pre = bs ++ numBytes x) := by
          simp only [tailBytes, List.append_nil] at hpre
          rw [numBytes, ← HK.out, hpre]; rfl
        clear hpre hlen
        go_wp2
        go_ret
        rw [HP.out] at hov
        exact ⟨_, rfl, hov, hbv⟩
      | succ r =>
        have er : ((r + 1 : Nat) : Int) - 1 = (r : Int) := by omega
        rw [er]
        clear er
        have hl : (bs ++ UInt8.ofNat (headNum x) :: pre).length ≤ bs.length + 9 := by simp; omega
        have hr8 : r ≤ 7 := by omega
        have HPre : Hid ((pre ++ [UInt8.ofNat (x / 256 ^ r)]) ++ tailBytes x r = tailBytes x k) := by
          show _ = _
          rw [← hpre, tailBytes, List.append_assoc]; rfl
        have HB : Hid (Value.int .u8 ((x : Int) / 2 ^ (8 * r) % 256) = vb (UInt8.ofNat (x / 256 ^ r))) := by
          show _ = _
          rw [vb_ofNat, show (256 : Nat) = 2 ^ 8 from rfl, ← Nat.pow_mul]
          simp
        clear hpre hlen
        go_wp2_with (at_builtin; (refine wpList_app _ rfl _ _ 29 rfl w.heap.size 5 _ 1 1 Try.underlying29 info_u8 rfl (by decide) _ _ _ rfl (World.ownsRow.alloc hov _) (some ⟨wr.heap.size, 0, none⟩) 1 1 [.int .u8 ((x : Int) / 2 ^ (8 * r) % 256)] rfl rfl (Lies.new wr 5 _ (0, 0)) (by intro u hu; cases List.mem_singleton.1 hu; rfl) (by simp) ?c1 ?c2 ?c3 ?_))
        case c1 => rw [HML.out]; omega
        case c2 => omega
        case c3 => have := hbv.size; simp; omega
        intro v2 w2 hown2 hg2 _
        rw [HB.out] at hown2
        have ho2 : OB w2 w.heap.size v2 (bs ++ UInt8.ofNat (headNum x) :: (pre ++ [UInt8.ofNat (x / 256 ^ r)])) := OB.mk hown2 (by simp only [List.length_append, List.length_cons, List.length_nil]; omega) (by simp)
        have hb2 := (hbv.alloc hbv.size _).grown hg2 (by have := hbv.size; simp; omega) (by intro j hj; exact (World.ownsRow.lt hov j hj).1)
        go_wp2
        go_roundg r
        case measure => omega
        case rel => exact ⟨_, HPre.out, by go_num, ho2, hb2⟩
end Go.Proofs.Ytjfpanamkkdebaa
