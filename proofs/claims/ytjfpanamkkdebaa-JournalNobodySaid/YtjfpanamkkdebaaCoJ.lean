/- The walks of the document's writers: joined bytes, numbers, numbers of either sign. -/
import Derived.Test.YtjfpanamkkdebaaCoR
namespace Go.Proofs.Ytjfpanamkkdebaa
open Go.RowKit
set_option linter.unusedVariables false
set_option linter.unusedSimpArgs false
set_option maxHeartbeats 800000 in
theorem join_any (A B : Option Addr) (c d : Nat) (xs ys : List UInt8) (w : World) (hm : xs.length + ys.length ≤ 140737488355328) (hA : A = none → c = 0) (hB : B = none → d = 0) (hr : RB w A xs) (hs : RB w B ys) :
    Calls Try.prog 79 #[.slice A xs.length c, .slice B ys.length d] w fun e w' => ∃ v, e = .returned v ∧ OB w' w.heap.size v (xs ++ ys) ∧ Below w.heap.size w w' := by
  have HML : Hid (maxLen = 9223372036854775807) := rfl
  go_enter Try.func79, Try.ntmps79
  go_wp2_with (at_builtin; refine wpList_app _ rfl _ _ 29 rfl w.heap.size 5 _ 1 1 Try.underlying29 info_u8 rfl (by decide) _ 0 [] rfl (World.ownsRow_nil _ _ _ _) A xs.length c (xs.map vb) rfl (by simp) hr (vbs_one xs) hA ?c1 ?c2 ?c3 ?_)
  case c1 => rw [HML.out]; omega
  case c2 => omega
  case c3 => exact Nat.le_refl _
  intro v1 w1 hown1 hg1 _
  have hb1 : Below w.heap.size w w1 := (Below.refl _ _).grown hg1 (Nat.le_refl _) (by intro k hk; cases hk)
  have hs1 := hs.below hb1
  have ho1 : OB w1 w.heap.size v1 xs := OB.mk hown1 (by simp) (by simp)
  have hol := ho1
  unfold OB at hol
  clear hown1 hg1 hr hs
  go_wp2_with (at_builtin; refine wpList_app _ rfl _ _ 29 rfl w.heap.size 5 _ 1 1 Try.underlying29 info_u8 rfl (by decide) _ _ _ rfl hol B ys.length d (ys.map vb) rfl (by simp) hs1 (vbs_one ys) hB ?c1 ?c2 ?c3 ?_)
  case c1 => rw [HML.out]; omega
  case c2 => omega
  case c3 => exact hb1.size
  intro v2 w2 hown2 hg2 _
  go_wp2
  go_ret
  exact ⟨_, rfl, OB.mk hown2 (by simp) (by simp), hb1.grown hg2 hb1.size (by intro j hj; exact (World.ownsRow.lt hol j hj).1)⟩
set_option maxHeartbeats 800000 in
theorem rnum_any (A : Option Addr) (c : Nat) (bs : List UInt8) (n : Int) (w : World) (hm : bs.length ≤ 140737488355000) (hn : n ≤ 9223372036854775807) (hA : A = none → c = 0) (hr : RB w A bs) :
    Calls Try.prog 71 #[.slice A bs.length c, .int .i64 n] w fun e w' => ∃ v, e = .returned v ∧ OB w' w.heap.size v (bs ++ numBytes (numNat n)) ∧ Below w.heap.size w w' := by
  have hlt := numNat_lt hn
  have hnl : (numBytes (numNat n)).length ≤ 9 := by rw [numBytes_length]; have := need_le (numNat n); omega
  go_enter Try.func71, Try.ntmps71
  by_cases h : n < 0
  · have hnn : numNat n = 0 := by unfold numNat; omega
    rw [hnn] at hnl ⊢
    clear hlt hnn
    go_wp2_with fail
    refine (rbytes_any 0 w (by decide)).mono ?_
    rintro e w1 ⟨v1, rfl, ho1, hb1⟩
    obtain ⟨A1, c1, rfl, hl1, hA1⟩ := ho1.form
    go_wp2_with fail
    refine (join_any A A1 c c1 bs _ w1 (by omega) hA hA1 (hr.below hb1) (RB.of_own ho1)).mono ?_
    rintro e w2 ⟨v2, rfl, ho2, hb2⟩
    go_wp2
    go_ret
    exact ⟨_, rfl, ho2.mono hb1.size, hb1.trans (hb2.mono hb1.size)⟩
  · have HE : ((numNat n : Nat) : Int) = n := by unfold numNat; omega
    have HC := rbytes_any (numNat n) w (by omega)
    rw [HE] at HC
    have HC := Lib.hid HC
    clear HE
    go_wp2_with fail
    refine HC.out.mono ?_
    rintro e w1 ⟨v1, rfl, ho1, hb1⟩
    obtain ⟨A1, c1, rfl, hl1, hA1⟩ := ho1.form
    go_wp2_with fail
    refine (join_any A A1 c c1 bs _ w1 (by omega) hA hA1 (hr.below hb1) (RB.of_own ho1)).mono ?_
    rintro e w2 ⟨v2, rfl, ho2, hb2⟩
    go_wp2
    go_ret
    exact ⟨_, rfl, ho2.mono hb1.size, hb1.trans (hb2.mono hb1.size)⟩
end Go.Proofs.Ytjfpanamkkdebaa
