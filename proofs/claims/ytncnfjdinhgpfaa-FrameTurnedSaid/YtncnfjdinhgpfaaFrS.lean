/- The walks of Seal and Open. -/
import Derived.Test.YtncnfjdinhgpfaaFrW
import Derived.Test.YtncnfjdinhgpfaaLaws
import Derived.Lib.SlBytesConst
namespace Go.Proofs.Ytncnfjdinhgpfaa
open Go.RowKit
set_option linter.unusedVariables false
set_option linter.unusedSimpArgs false
theorem info_u8 : (Try.prog.info? 5).map (fun i => (i.zero, i.size, i.bytes)) = some (some (.int .u8 0), 1, 1) := by kernel_rfl
/-- Bytes that the call itself made. -/
def OB (w : World) (base : Nat) (v : Value) (bs : List UInt8) : Prop := w.ownsRow base 5 1 v bs.length (bs.map vb)
theorem vb_ofNat (n : Nat) : vb (UInt8.ofNat n) = .int .u8 ((n : Int) % 256) := by
  simp [vb, UInt8.toNat_ofNat]
theorem vb_one (b : UInt8) : (vb b).oneCell' = true := rfl
theorem vbs_one (bs : List UInt8) : ∀ u ∈ bs.map vb, u.oneCell' = true := by
  intro u hu
  obtain ⟨b, _, rfl⟩ := List.mem_map.1 hu
  rfl
theorem head_set (s : Nat) {j : Nat} (hj : j < 4) : (((crcHead s).take j ++ List.replicate (4 - j) 0).map vb).set j (.int .u8 ((s : Int) / 2 ^ (24 - 8 * j) % 256)) = ((crcHead s).take (j + 1) ++ List.replicate (4 - (j + 1)) 0).map vb := by
  rcases j with _ | _ | _ | _ | j
  · simp [crcHead, vb_ofNat, List.replicate]
  · simp [crcHead, vb_ofNat, List.replicate]
  · simp [crcHead, vb_ofNat, List.replicate]
  · simp [crcHead, vb_ofNat, List.replicate]
  · omega
set_option maxHeartbeats 800000 in
theorem seal_any (A : Option Addr) (c : Nat) (bs : List UInt8) (w : World) (hm : bs.length ≤ 140737488351232) (hA : A = none → c = 0) (hr : RB w A bs) :
    Calls Try.prog 15 #[.slice A bs.length c] w fun e w' => ∃ v, e = .returned v ∧ OB w' w.heap.size v (sealed bs) ∧ Below w.heap.size w w' := by
  have hml : maxLen = 9223372036854775807 := rfl
  have HML := Lib.hid hml
  clear hml
  go_enter Try.func15, Try.ntmps15
  go_wp2_with (first | (go_at_call 13; refine (sum_any _ _ _ _ (by omega) hr).mono ?_; rintro e w1 ⟨rfl, hb⟩) | (at_make; refine wpList_mk _ rfl _ _ 22 rfl w.heap.size 5 _ 1 Try.underlying22 info_u8 rfl _ _ _ _ 4 (4 + bs.length) rfl rfl rfl ?c1 ?c2 ?c3 ?c4 ?c5 ?_))
  case c1 => omega
  case c2 => omega
  case c3 => omega
  case c4 => rw [HML.out]; omega
  case c5 => exact hb.size
  intro w2 hown hg
  have hb2 : Below w.heap.size w w2 := hb.grown hg hb.size (by simp)
  obtain ⟨g, hgg⟩ : ∃ g, g = w1.heap.size := ⟨_, rfl⟩
  have hgw : w.heap.size ≤ g := by rw [hgg]; exact hb.size
  rw [← hgg] at hown ⊢
  clear hb hgg hg
  obtain ⟨s, hs⟩ : ∃ s, s = crc bs := ⟨_, rfl⟩
  have hsl : s < 4294967296 := by rw [hs]; exact crc_lt bs
  rw [← hs]
  have HS := Lib.hid hs
  clear hs
  go_wp2
  go_loopg [14] 4 (fun n i w' => ∃ j : Nat, j + n = 4 ∧ i = .int .i64 j ∧ w'.ownsRow w.heap.size 5 1 (.slice (some ⟨g, 0, none⟩) 4 (4 + bs.length)) 4 (((crcHead s).take j ++ List.replicate (4 - j) 0).map vb) ∧ Below w.heap.size w w')
  case atStart => exact ⟨0, by omega, rfl, hown, hb2⟩
  case round =>
    obtain ⟨j, hj, rfl, hown, hb2⟩ := hrel
    by_cases hlt : j < 4
    · have hcell := hown.cellAt j (by omega)
      have hfr := hown.frozenAt j
      obtain ⟨u, hu⟩ : ∃ u, (((crcHead s).take j ++ List.replicate (4 - j) 0).map vb)[j]? = some u := ⟨_, List.getElem?_eq_getElem (by simp [crcHead]; omega)⟩
      rw [hu] at hcell
      clear hu
      have HO := Lib.hid hown
      clear hown
      go_wp2
      go_roundg (4 - j - 1)
      case measure => omega
      case rel =>
        refine ⟨j + 1, by omega, by go_num, ?_, hb2.setCell hgw _⟩
        rw [← head_set s hlt]
        exact (HO.out.stored j _).1
    · obtain rfl : j = 4 := by omega
      have hrr := hr.below hb2
      simp only [show (crcHead s).take 4 = crcHead s from rfl, Nat.sub_self, List.replicate_zero, List.append_nil] at hown
      go_wp2_with (at_builtin; refine wpList_app _ rfl _ _ 22 rfl w.heap.size 5 _ 1 1 Try.underlying22 info_u8 rfl (by decide) _ 4 _ rfl hown A bs.length c (bs.map vb) rfl (by simp) hrr (vbs_one bs) hA ?c6 ?c7 hb2.size ?_)
      case c6 => rw [HML.out]; omega
      case c7 => omega
      intro v w3 hown3 hg3 _
      go_wp2
      go_ret
      refine ⟨v, rfl, ?_, hb2.grown hg3 hb2.size (by intro k hk; cases hk; exact hgw)⟩
      unfold OB sealed
      rw [← HS.out, List.length_append, List.map_append]
      exact hown3
set_option maxHeartbeats 800000 in
theorem open_any (A : Option Addr) (c : Nat) (bs : List UInt8) (w : World) (hm : bs.length ≤ 140737488355328) (hlc : bs.length ≤ c) (hA : A = none → c = 0) (hr : RB w A bs) :
    Calls Try.prog 8 #[.slice A bs.length c] w fun e w' => ∃ v, e = .returned (.tuple #[v, .int .i64 ((opened bs).2 : Int)]) ∧ OB w' w.heap.size v (opened bs).1 ∧ Below w.heap.size w w' := by
  by_cases hl : bs.length < 4
  · have HO : Hid (opened bs = ([], 4)) := if_pos hl
    go_enter Try.func8, Try.ntmps8
    go_wp2
    go_ret2
    rw [HO.out]
    exact ⟨_, rfl, World.ownsRow_nil _ _ _ _, Below.refl _ _⟩
  · have hml : maxLen = 9223372036854775807 := rfl
    have HML := Lib.hid hml
    clear hml
    have hl : 4 ≤ bs.length := by omega
    go_enter Try.func8, Try.ntmps8
    go_wp2
    go_loopg [4, 13] 4 (fun n s i w' => w' = w ∧ ∃ j : Nat, j + n = 4 ∧ i = .int .i64 j ∧ s = .int .u32 (num (bs.take j)))
    case atStart => exact ⟨rfl, 0, by omega, rfl, rfl⟩
    case round =>
      obtain ⟨rfl, j, hj, rfl, rfl⟩ := hrel
      by_cases hlt : j < 4
      · obtain ⟨a, rfl, hc⟩ := hr.at (show j < bs.length by omega)
        obtain ⟨s, hs⟩ : ∃ s, s = num (bs.take j) := ⟨_, rfl⟩
        have hsl : s < 16777216 := by
          have h1 := num_lt (bs.take j)
          have h2 : 256 ^ (bs.take j).length ≤ 256 ^ 3 := Nat.pow_le_pow_right (by decide) (by simp; omega)
          omega
        obtain ⟨x, hx⟩ : ∃ x, x = bs[j].toNat := ⟨_, rfl⟩
        have hxl : x < 256 := by rw [hx]; exact UInt8.toNat_lt _
        have HS : Hid (num (bs.take (j + 1)) = s * 256 + x) := by show _ = _; rw [List.take_succ_eq_append_getElem (by omega), num_snoc, hs, hx]
        rw [← hx] at hc
        rw [← hs]
        clear hs hx
        have E1 : Hid (Go.bits .or .u32 ((s : Int) * 256) (x : Int) = ((s * 256 + x : Nat) : Int)) := by
          have := u32_or_nat (s * 256) x (by omega) (by omega)
          rw [or_byte s x hxl] at this
          exact this
        go_wp2
        go_roundg (4 - j - 1)
        case measure => omega
        case rel => exact ⟨rfl, j + 1, by omega, by go_num, by rw [HS.out, ← E1.out]⟩
      · obtain rfl : j = 4 := by omega
        clear hlt
        have hd : (4 : Nat) ≤ c := by omega
        have hn := num_lt (bs.take 4)
        rw [show (bs.take 4).length = 4 by simp; omega] at hn
        obtain ⟨s, hs⟩ : ∃ s, s = num (bs.take 4) := ⟨_, rfl⟩
        rw [← hs]
        have HI : Hid (s = crc (bs.drop 4) ↔ bs.take 4 = crcHead (crc (bs.drop 4))) := by
          show _ ↔ _
          rw [hs]; exact head_iff (by simp; omega) (crc_lt _)
        clear hs hn
        have hdl : (bs.drop 4).length = bs.length - 4 := by simp
        have HD := Lib.hid hdl
        clear hdl
        have hc0 : A = none → c = 0 := hA
        go_wp2_with (refine wpList_cut _ rfl (.tmp 23) (some (.const (.int .i64 4))) none none 22 rfl 5 _ 1 1 Try.underlying22 info_u8 A bs.length c rfl 4 bs.length c ⟨_, rfl⟩ rfl rfl (by simp) (by omega) (by omega) (by omega) ?_; intro A1 hA1)
        have h1 := hr.from hA1 hlc
        rw [← HD.out]
        refine (sum_any A1 _ (bs.drop 4) wr (by rw [HD.out]; omega) h1).mono ?_
        rintro e w1 ⟨rfl, hb⟩
        rw [HD.out]
        have hr1 := hr.below hb
        by_cases heq : s = crc (bs.drop 4)
        · have HO : Hid (opened bs = (bs.drop 4, 0)) := by
            show _ = _
            rw [opened, if_neg (by omega), if_pos (HI.out.1 heq)]
          have hq : ((crc (bs.drop 4) : Int) != (s : Int)) = false := by simp [heq]
          clear heq
          go_wp2_with (first | (refine wpList_cut _ rfl (.tmp 28) (some (.const (.int .i64 4))) none none 22 rfl 5 _ 1 1 Try.underlying22 info_u8 A bs.length c rfl 4 bs.length c ⟨_, rfl⟩ rfl rfl (by simp) (by omega) (by omega) (by omega) ?_; intro A2 hA2; have h2 := hr1.from hA2 hlc; have h3 := hA2.cap0 hA) | (at_builtin; refine wpList_app _ rfl _ _ 22 rfl wr.heap.size 5 _ 1 1 Try.underlying22 info_u8 rfl (by decide) _ 0 [] rfl (World.ownsRow_nil _ _ _ _) A2 (bs.length - 4) _ ((bs.drop 4).map vb) rfl (by simp) h2 (vbs_one _) h3 ?c6 ?c7 hb.size ?_))
          case c6 => rw [HML.out]; omega
          case c7 => omega
          intro v w3 hown3 hg3 _
          go_wp2
          go_ret2
          rw [HO.out]
          refine ⟨_, rfl, ?_, hb.grown hg3 hb.size (by intro k hk; cases hk)⟩
          unfold OB
          simpa [HD.out] using hown3
        · have HO : Hid (opened bs = ([], 6)) := by
            show _ = _
            rw [opened, if_neg (by omega), if_neg (fun h => heq (HI.out.2 h))]
          have hq : ((crc (bs.drop 4) : Int) != (s : Int)) = true := by simp; omega
          clear heq
          go_wp2
          go_ret2
          rw [HO.out]
          exact ⟨_, rfl, World.ownsRow_nil _ _ _ _, hb⟩
theorem head_four {bs : List UInt8} (hl : 4 ≤ bs.length) (s : Nat) : bs.take 4 = crcHead s ↔ (bs[0].toNat = s / 16777216 % 256 ∧ bs[1].toNat = s / 65536 % 256 ∧ bs[2].toNat = s / 256 % 256 ∧ bs[3].toNat = s % 256) := by
  match bs, hl with
  | a :: b :: c :: d :: r, _ =>
    have e : ∀ (x : UInt8) (n : Nat), x = UInt8.ofNat n ↔ x.toNat = n % 256 := by
      intro x n
      rw [← UInt8.toNat_inj, UInt8.toNat_ofNat']
    simp [crcHead, e]
set_option maxHeartbeats 1600000 in
theorem ropen_any (A : Option Addr) (c : Nat) (bs : List UInt8) (w : World) (hm : bs.length ≤ 140737488355328) (hlc : bs.length ≤ c) (hA : A = none → c = 0) (hr : RB w A bs) :
    Calls Try.prog 9 #[.slice A bs.length c] w fun e w' => ∃ v, e = .returned (.tuple #[v, .int .i64 ((opened bs).2 : Int)]) ∧ OB w' w.heap.size v (opened bs).1 ∧ Below w.heap.size w w' := by
  by_cases hl : bs.length < 4
  · have HO : Hid (opened bs = ([], 4)) := if_pos hl
    go_enter Try.func9, Try.ntmps9
    go_wp2
    go_ret2
    rw [HO.out]
    exact ⟨_, rfl, World.ownsRow_nil _ _ _ _, Below.refl _ _⟩
  · have HML : Hid (maxLen = 9223372036854775807) := rfl
    have hl : 4 ≤ bs.length := by omega
    have hd : (4 : Nat) ≤ c := by omega
    have HD : Hid ((bs.drop 4).length = bs.length - 4) := by show _ = _; simp
    have hiff := head_four hl (crc (bs.drop 4))
    have hsl := crc_lt (bs.drop 4)
    obtain ⟨s, hs⟩ : ∃ s, s = crc (bs.drop 4) := ⟨_, rfl⟩
    rw [← hs] at hiff hsl
    have HS := Lib.hid hs
    clear hs
    obtain ⟨a, rfl, hc0⟩ := hr.at (k := 0) (by omega)
    obtain ⟨_, h1, hc1⟩ := hr.at (k := 1) (by omega); cases h1
    obtain ⟨_, h1, hc2⟩ := hr.at (k := 2) (by omega); cases h1
    obtain ⟨_, h1, hc3⟩ := hr.at (k := 3) (by omega); cases h1
    obtain ⟨x0, hx0⟩ : ∃ x, x = bs[0].toNat := ⟨_, rfl⟩
    obtain ⟨x1, hx1⟩ : ∃ x, x = bs[1].toNat := ⟨_, rfl⟩
    obtain ⟨x2, hx2⟩ : ∃ x, x = bs[2].toNat := ⟨_, rfl⟩
    obtain ⟨x3, hx3⟩ : ∃ x, x = bs[3].toNat := ⟨_, rfl⟩
    rw [← hx0] at hc0
    rw [← hx1] at hc1
    rw [← hx2] at hc2
    rw [← hx3] at hc3
    rw [← hx0, ← hx1, ← hx2, ← hx3] at hiff
    clear hx0 hx1 hx2 hx3
    have HI := Lib.hid hiff
    clear hiff
    simp only [Addr.add_zero', Addr.add_succ', Nat.zero_add, Nat.reduceAdd] at hc0 hc1 hc2 hc3
    go_enter Try.func9, Try.ntmps9
    go_wp2_with (refine wpList_cut _ rfl (.tmp 9) (some (.const (.int .i64 4))) none none 22 rfl 5 _ 1 1 Try.underlying22 info_u8 (some a) bs.length c rfl 4 bs.length c ⟨_, rfl⟩ rfl rfl (by simp) (by omega) (by omega) (by omega) ?_; intro A1 hA1)
    have h1 := hr.from hA1 hlc
    rw [← HD.out]
    refine (rsum_any A1 _ (bs.drop 4) w (by rw [HD.out]; omega) h1).mono ?_
    rintro e w1 ⟨rfl, rfl⟩
    rw [HD.out, ← HS.out]
    have bad : ∀ (h : ¬ (x0 = s / 16777216 % 256 ∧ x1 = s / 65536 % 256 ∧ x2 = s / 256 % 256 ∧ x3 = s % 256)), Hid (opened bs = ([], 6)) := by
      intro h
      show _ = _
      rw [opened, if_neg (by omega), if_neg (fun hh => h (HI.out.1 (HS.out ▸ hh)))]
    have HBad := Lib.hid bad
    clear bad
    by_cases e0 : x0 = s / 16777216 % 256
    · have q0 : ((x0 : Int) != (s : Int) / 16777216) = false := by simp; omega
      have E0 := Lib.hid e0
      clear e0
      by_cases e1 : x1 = s / 65536 % 256
      · have q1 : ((x1 : Int) != (s : Int) / 65536 % 256) = false := by simp; omega
        have E1 := Lib.hid e1
        clear e1
        by_cases e2 : x2 = s / 256 % 256
        · have q2 : ((x2 : Int) != (s : Int) / 256 % 256) = false := by simp; omega
          have E2 := Lib.hid e2
          clear e2
          by_cases e3 : x3 = s % 256
          · have q3 : ((x3 : Int) != (s : Int) % 256) = false := by simp; omega
            have E3 := Lib.hid e3
            clear e3
            go_wp2_with (first | (refine wpList_cut _ rfl (.tmp 46) (some (.const (.int .i64 4))) none none 22 rfl 5 _ 1 1 Try.underlying22 info_u8 (some a) bs.length c rfl 4 bs.length c ⟨_, rfl⟩ rfl rfl (by simp) (by omega) (by omega) (by omega) ?_; intro A2 hA2; have h2 := hr.from hA2 hlc; have h3 := hA2.cap0 hA) | (at_builtin; refine wpList_app _ rfl _ _ 22 rfl w.heap.size 5 _ 1 1 Try.underlying22 info_u8 rfl (by decide) _ 0 [] rfl (World.ownsRow_nil _ _ _ _) A2 (bs.length - 4) _ ((bs.drop 4).map vb) rfl (by simp) h2 (vbs_one _) h3 ?c6 ?c7 (Nat.le_refl _) ?_))
            case c6 => rw [HML.out]; omega
            case c7 => omega
            intro v w3 hown3 hg3 _
            have HO : Hid (opened bs = (bs.drop 4, 0)) := by
              show _ = _
              rw [opened, if_neg (by omega), if_pos]
              rw [← HS.out]
              exact HI.out.2 ⟨E0.out, E1.out, E2.out, E3.out⟩
            go_wp2
            go_ret2
            rw [HO.out]
            refine ⟨_, rfl, ?_, (Below.refl _ _).grown hg3 (Nat.le_refl _) (by intro k hk; cases hk)⟩
            unfold OB
            simpa [HD.out] using hown3
          · have q3 : ((x3 : Int) != (s : Int) % 256) = true := by simp; omega
            have HO : Hid (opened bs = ([], 6)) := HBad.out (by omega)
            clear e3
            go_wp2
            go_ret2
            rw [HO.out]
            exact ⟨_, rfl, World.ownsRow_nil _ _ _ _, Below.refl _ _⟩
        · have q2 : ((x2 : Int) != (s : Int) / 256 % 256) = true := by simp; omega
          have HO : Hid (opened bs = ([], 6)) := HBad.out (by omega)
          clear e2
          go_wp2
          go_ret2
          rw [HO.out]
          exact ⟨_, rfl, World.ownsRow_nil _ _ _ _, Below.refl _ _⟩
      · have q1 : ((x1 : Int) != (s : Int) / 65536 % 256) = true := by simp; omega
        have HO : Hid (opened bs = ([], 6)) := HBad.out (by omega)
        clear e1
        go_wp2
        go_ret2
        rw [HO.out]
        exact ⟨_, rfl, World.ownsRow_nil _ _ _ _, Below.refl _ _⟩
    · have q0 : ((x0 : Int) != (s : Int) / 16777216) = true := by simp; omega
      have HO : Hid (opened bs = ([], 6)) := HBad.out (by omega)
      clear e0
      go_wp2
      go_ret2
      rw [HO.out]
      exact ⟨_, rfl, World.ownsRow_nil _ _ _ _, Below.refl _ _⟩
theorem equal_any (A B : Option Addr) (c d : Nat) (xs ys : List UInt8) (w : World) (hr : RB w A xs) (hs : RB w B ys) :
    Calls Try.prog 10 #[.slice A xs.length c, .slice B ys.length d] w fun e w' => e = .returned (.bool (xs == ys)) ∧ w = w' := by
  have k1 := RB.str (P := Try.prog) (src := 22) (dst := 9) Try.underlying22 Try.underlying5 Try.underlying9 hr xs.length c rfl
  have k2 := RB.str (P := Try.prog) (src := 22) (dst := 9) Try.underlying22 Try.underlying5 Try.underlying9 hs ys.length d rfl
  go_enter Try.func10, Try.ntmps10
  go_wp2
  go_ret
  refine ⟨?_, rfl⟩
  show Ending.returned (.bool ((str xs).toList == (str ys).toList)) = _
  rw [str_toList', str_toList']
set_option maxHeartbeats 800000 in
theorem clone_any (A : Option Addr) (c : Nat) (bs : List UInt8) (w : World) (hm : bs.length ≤ 140737488351232) (hA : A = none → c = 0) (hr : RB w A bs) :
    Calls Try.prog 12 #[.slice A bs.length c] w fun e w' => ∃ v, e = .returned v ∧ OB w' w.heap.size v bs ∧ Below w.heap.size w w' := by
  have kn := fun (l c l' c' : Nat) (w : World) => Lib.run_eql_slice_nil (P := Try.prog) w 22 5 A l c l' c' Try.underlying22
  have HML : Hid (maxLen = 9223372036854775807) := rfl
  cases A with
  | none =>
    have h0 : bs = [] := by
      cases bs with
      | nil => rfl
      | cons b bs => obtain ⟨a, ha, _⟩ := hr.at (k := 0) (by simp); cases ha
    subst h0
    go_enter Try.func12, Try.ntmps12
    go_wp2
    go_ret
    exact ⟨_, rfl, World.ownsRow_nil _ _ _ _, Below.refl _ _⟩
  | some a =>
    go_enter Try.func12, Try.ntmps12
    go_wp2_with (at_builtin; refine wpList_app _ rfl _ _ 22 rfl w.heap.size 5 _ 1 1 Try.underlying22 info_u8 rfl (by decide) _ 0 _ rfl (World.ownsRow_lit w _ 0 (Nat.le_refl _) (by decide) rfl) (some a) bs.length c (bs.map vb) rfl (by simp) (hr.below ((Below.refl _ _).alloc (Nat.le_refl _) _)) (vbs_one bs) hA ?c6 ?c7 ?c8 ?_)
    case c6 => rw [HML.out]; omega
    case c7 => omega
    case c8 => simp
    intro v w3 hown3 hg3 _
    go_wp2
    go_ret
    exact ⟨_, rfl, by simpa [OB] using hown3, ((Below.refl _ _).alloc (Nat.le_refl _) _).grown hg3 (by simp) (by intro k hk; cases hk; exact Nat.le_refl _)⟩
set_option maxHeartbeats 800000 in
theorem rseal_any (A : Option Addr) (c : Nat) (bs : List UInt8) (w : World) (hm : bs.length ≤ 140737488351232) (hA : A = none → c = 0) (hr : RB w A bs) :
    Calls Try.prog 16 #[.slice A bs.length c] w fun e w' => ∃ v, e = .returned v ∧ OB w' w.heap.size v (sealed bs) ∧ Below w.heap.size w w' := by
  go_enter Try.func16, Try.ntmps16
  go_wp2_with (first | (go_at_call 14; refine (rsum_any _ _ _ _ (by omega) hr).mono ?_; rintro e w1 ⟨rfl, rfl⟩) | (at_builtin; refine wpList_app _ rfl _ _ 22 rfl w.heap.size 5 _ 1 1 Try.underlying22 info_u8 rfl (by decide) _ 4 _ rfl (World.ownsRow_lit w _ 4 (Nat.le_refl _) (by decide) rfl) A bs.length c (bs.map vb) rfl (by simp) (hr.below ((Below.refl _ _).alloc (Nat.le_refl _) _)) (vbs_one bs) hA ?c6 ?c7 ?c8 ?_))
  case c6 => rw [show maxLen = 9223372036854775807 from rfl]; omega
  case c7 => omega
  case c8 => simp
  intro v w3 hown3 hg3 _
  go_wp2
  go_ret
  refine ⟨_, rfl, ?_, ((Below.refl _ _).alloc (Nat.le_refl _) _).grown hg3 (by simp) (by intro k hk; cases hk; exact Nat.le_refl _)⟩
  unfold OB sealed
  rw [List.length_append, List.map_append]
  simp only [crcHead, List.map_cons, List.map_nil, vb_ofNat, List.length_cons, List.length_nil, List.cons_append, List.nil_append]
  exact hown3
def nine : List UInt8 := [49, 50, 51, 52, 53, 54, 55, 56, 57]
theorem crc_nine : crc nine = 3421780262 := by decide +kernel
theorem awake_any (w : World) :
    Calls Try.prog 11 #[] w fun e w' => e = .returned (.bool true) ∧ Below w.heap.size w w' := by
  have kc := fun (w : World) (C : Array Value) (n c : Nat) => Lib.run_convert_bytes_const (P := Try.prog) w 22 5 C n c Try.underlying22 Try.underlying5
  go_enter Try.func11, Try.ntmps11
  go_wp2_with fail
  refine (sum_any (some ⟨w.heap.size, 0, none⟩) 9 nine _ (by decide) (RB.new w 5 nine (9, 10))).mono ?_
  rintro e w1 ⟨rfl, hb⟩
  rw [crc_nine]
  go_wp2
  go_ret
  exact ⟨rfl, ((Below.refl _ _).alloc (Nat.le_refl _) _).trans (hb.mono (by simp))⟩
end Go.Proofs.Ytncnfjdinhgpfaa
