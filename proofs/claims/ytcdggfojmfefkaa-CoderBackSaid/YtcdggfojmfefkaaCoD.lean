/- The walk of the law of reading what was written. -/
import Derived.Test.YtcdggfojmfefkaaCoH
import Derived.Test.YtcdggfojmfefkaaCoT
namespace Go.Proofs.Ytcdggfojmfefkaa
open Go.RowKit
set_option linter.unusedVariables false
set_option linter.unusedSimpArgs false
set_option maxHeartbeats 1600000 in
theorem coderBack_walk (n k : Int) (s : ByteArray) (A : Option Addr) (c : Nat) (bs : List UInt8) (w : World) (hw : (Lit.int .i64 n).wf = true) (hw2 : (Lit.int .i64 k).wf = true) (hsm : s.size ≤ 140737488351232) (hr : RB w A bs) (hA : A = none → c = 0) (hlc : bs.length ≤ c) (hm : bs.length ≤ 140737488351232) :
    Calls Try.prog 6 #[.int .i64 n, .int .i64 k, .string s, .slice A bs.length c] w fun e w' => e = .returned (.bool true) ∧ Below w.heap.size w w' := by
  have hn := wf_i64 hw
  have hk := wf_i64 hw2
  go_enter Try.func6, Try.ntmps6
  go_wp2_with fail
  go_region
  have hms : (min (s.size : Int) 1000).toNat ≤ 1000 := by omega
  obtain ⟨t, ht⟩ : ∃ t, t = s.extract 0 (min (s.size : Int) 1000).toNat := ⟨_, rfl⟩
  have hts : t.size ≤ 1000 := by rw [ht, ByteArray.size_extract]; omega
  rw [← ht]
  clear ht hms
  have hsz : t.data.toList.length = t.size := by rw [Array.length_toList]; rfl
  have hst : str t.data.toList = t := by simp [str]
  have hN := numNat_lt hn.2
  have hS := signNat_lt hk.1 hk.2
  have hNe : ((numNat n : Nat) : Int) = max n 0 := by unfold numNat; omega
  have hNm : numNat (max n 0) = numNat n := by unfold numNat; omega
  have h0 : 0 ≤ max n 0 := by omega
  have hT : textBytes t.data.toList = numBytes t.data.toList.length ++ t.data.toList := rfl
  obtain ⟨N, hNN⟩ : ∃ N, N = numNat n := ⟨_, rfl⟩
  rw [← hNN] at hN hNe hNm
  have hl1 := numBytes_length N
  have hl2 := numBytes_length (signNat k)
  have hl3 := numBytes_length t.data.toList.length
  have hd1 := need_le N
  have hd2 := need_le (signNat k)
  have hd3 := need_le t.data.toList.length
  have HN1 := num_any none 0 [] (max n 0) w.drew (by decide) (by omega) (by simp) (by decide) (Lies.nil _ _)
  rw [hNm, List.nil_append] at HN1
  have HN1 := Lib.hid HN1
  clear hNN hNm
  have HSn := fun A c w hA hlc hr => sign_any A c (numBytes N) k w (by omega) hk.1 hk.2 hA hlc hr
  have HTx := fun A c w hA hlc hr => text_any A c (numBytes N ++ numBytes (signNat k)) t w (by rw [List.length_append]; omega) hA hlc hr
  have HSn := Lib.hid HSn
  have HTx := Lib.hid HTx
  have HAll : Hid ((numBytes N ++ numBytes (signNat k)) ++ textBytes t.data.toList ++ bs = numBytes N ++ (numBytes (signNat k) ++ (numBytes t.data.toList.length ++ (t.data.toList ++ bs)))) := by
    show _ = _
    rw [hT]; simp only [List.append_assoc]
  have hL3 : ((numBytes N ++ numBytes (signNat k)) ++ textBytes t.data.toList).length ≤ 2000 := by rw [hT]; simp only [List.length_append]; omega
  obtain ⟨L3, hL3e⟩ : ∃ L3, L3 = (numBytes N ++ numBytes (signNat k)) ++ textBytes t.data.toList := ⟨_, rfl⟩
  rw [← hL3e] at HAll hL3 HTx
  have HR1 := fun g w h => rnumok g N (max n 0) (numBytes (signNat k) ++ (numBytes t.data.toList.length ++ (t.data.toList ++ bs))) w hN (by omega) h (by simp only [List.length_append]; omega)
  have HR2 := fun g w h => rsignok g k (numBytes t.data.toList.length ++ (t.data.toList ++ bs)) w hk.1 hk.2 h (by simp only [List.length_append]; omega)
  have HR3 := fun g w h => rtextok g 1000 t.data.toList bs w (by omega) h (by omega)
  rw [hNe] at HR1
  rw [hst] at HR3
  have HR1 := Lib.hid HR1
  have HR2 := Lib.hid HR2
  have HR3 := Lib.hid HR3
  have HLen : Hid (L3.length + bs.length ≤ 140737488355328) := by show _ ≤ _; omega
  have hbd : Below w.heap.size w w.drew := (Below.refl _ _).drew
  have HML : Hid (maxLen = 9223372036854775807) := rfl
  clear hl1 hl2 hl3 hd1 hd2 hd3 hL3e hT hst hsz hNe
  obtain ⟨t1, ht1⟩ : ∃ t1, t1 = numBytes N := ⟨_, rfl⟩
  obtain ⟨t2, ht2⟩ : ∃ t2, t2 = numBytes N ++ numBytes (signNat k) := ⟨_, rfl⟩
  rw [← ht2] at HSn HTx
  rw [← ht1] at HN1 HSn
  clear ht1 ht2
  go_wp2_with fail
  refine HN1.out.mono ?_
  rintro e w1 ⟨v1, rfl, ho1, hb1⟩
  obtain ⟨A1, c1, rfl, hl1, hA1⟩ := ho1.form
  have hb01 : Below w.heap.size w w1 := hbd.trans hb1
  go_wp2_with fail
  refine (HSn.out A1 c1 w1 hA1 hl1 (RB.of_own ho1)).mono ?_
  rintro e w2 ⟨v2, rfl, ho2, hb2⟩
  obtain ⟨A2, c2, rfl, hl2, hA2⟩ := ho2.form
  have hb02 := hb01.trans (hb2.mono hb01.size)
  clear ho1 hb1 hb2 hb01
  go_wp2_with fail
  refine (HTx.out A2 c2 w2 hA2 hl2 (RB.of_own ho2)).mono ?_
  rintro e w3 ⟨v3, rfl, ho3, hb3⟩
  obtain ⟨A3, c3, rfl, hl3, hA3⟩ := ho3.form
  have hb03 := hb02.trans (hb3.mono hb02.size)
  have ho3 := ho3.mono hb02.size
  have rb := hr.below hb03
  have hol := ho3
  unfold OB at hol
  clear ho2 hb3 hb02
  go_wp2_with (at_builtin; refine wpList_app _ rfl _ _ 22 rfl w.heap.size 5 _ 1 1 Try.underlying22 info_u8 rfl (by decide) _ _ _ rfl hol A bs.length c (bs.map vb) rfl (by simp) rb (vbs_one bs) hA ?c1 ?c2 ?c3 ?_)
  case c1 => rw [HML.out]; have := HLen.out; omega
  case c2 => have := HLen.out; omega
  case c3 => exact hb03.size
  intro v4 w4 hown4 hg4 _
  have ho4 : OB w4 w.heap.size v4 (L3 ++ bs) := OB.mk hown4 (by simp) (by simp)
  have hb04 : Below w.heap.size w w4 := hb03.grown hg4 hb03.size (by intro j hj; exact (World.ownsRow.lt hol j hj).1)
  clear hown4 hg4 hol ho3 hb03 rb
  have hl4e : (L3 ++ bs).length ≤ 140737488355328 := by rw [List.length_append]; exact HLen.out
  obtain ⟨L4, hL4⟩ : ∃ L4, L4 = L3 ++ bs := ⟨_, rfl⟩
  rw [← hL4] at ho4 HAll hl4e
  clear hL4
  obtain ⟨A4, c4, rfl, hl4, hA4⟩ := ho4.form
  go_wp2_with fail
  refine (readok A4 c4 L4 w4 hl4e hA4 (RB.of_own ho4)).mono ?_
  rintro e w5 ⟨g, rfl, hrd, hgs, hb5⟩
  have hb05 := hb04.trans (hb5.mono hb04.size)
  have hgb : w.heap.size ≤ g := Nat.le_trans hb04.size hgs
  rw [HAll.out] at hrd
  clear ho4 hb5 hb04 hl4e
  go_wp2_with fail
  refine (HR1.out g w5 hrd).mono ?_
  rintro e w6 ⟨rfl, hrd, hg6⟩
  have hb06 := hb05.grown hg6 hb05.size (by intro j hj; injection hj with hj; omega)
  clear hb05 hg6
  go_wp2_with fail
  refine (HR2.out g w6 hrd).mono ?_
  rintro e w7 ⟨rfl, hrd, hg7⟩
  have hb07 := hb06.grown hg7 hb06.size (by intro j hj; injection hj with hj; omega)
  clear hb06 hg7
  go_wp2_with fail
  refine (HR3.out g w7 hrd).mono ?_
  rintro e w8 ⟨rfl, hrd, hg8⟩
  have hb08 := hb07.grown hg8 hb07.size (by intro j hj; injection hj with hj; omega)
  clear hb07 hg8
  go_wp2_with fail
  refine (rerrok g bs w8 hrd).mono ?_
  rintro e w9 ⟨rfl, rfl⟩
  go_wp2_with fail
  refine (rleftok g bs w8 hrd).mono ?_
  rintro e w9 ⟨rfl, rfl⟩
  go_wp2_with fail
  refine (awake_any _).mono ?_
  rintro e w9 ⟨rfl, hb9⟩
  go_wp2
  go_ret
  exact ⟨rfl, hb08.trans (hb9.mono hb08.size)⟩
end Go.Proofs.Ytcdggfojmfefkaa
