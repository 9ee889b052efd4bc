/- How two words begin alike: the walk. -/
import Derived.Test.YtjmojfhkajknlaaDiA
import Derived.Test.YtjmojfhkajknlaaCoH
namespace Go.Proofs.Ytjmojfhkajknlaa
open Go.RowKit
set_option linter.unusedVariables false
set_option linter.unusedSimpArgs false
theorem by8_get (s : ByteArray) (k : Nat) (h : k < s.size) : (by8 s)[k]'h = s[k] := rfl
set_option maxHeartbeats 1600000 in
theorem like_any (a b : ByteArray) (w : World) (ha : a.size ≤ 9223372036854775807) (hb : b.size ≤ 9223372036854775807) :
    Calls Try.prog 28 #[.string a, .string b] w fun e w' => e = .returned (.int .i64 (likeL (by8 a) (by8 b))) ∧ ∃ q, w' = w.drewN q := by
  go_enter Try.func28, Try.ntmps28
  go_wp2
  go_loopg [5] (min a.size b.size) (fun r i wr => ∃ (j q : Nat), j + r = min a.size b.size ∧ i = .int .i64 j ∧ Hid (likeL (by8 a) (by8 b) = j + likeL ((by8 a).drop j) ((by8 b).drop j)) ∧ wr = w.drewN q)
  case atStart => exact ⟨0, 0, by omega, rfl, Lib.hid (by simp), rfl⟩
  case round =>
    obtain ⟨j, q, hj, rfl, hL, rfl⟩ := hrel
    by_cases hlt : j < min a.size b.size
    · have ha1 : j < a.size := by omega
      have hb1 : j < b.size := by omega
      have hm : (j : Int) < min (a.size : Int) (b.size : Int) := by omega
      have hq : decide ((j : Int) < min (a.size : Int) (b.size : Int)) = true := decide_eq_true hm
      by_cases he : a[j] = b[j]
      · have hqe : ((a[j].toNat : Int) == (b[j].toNat : Int)) = true := by rw [he]; exact beq_self_eq_true _
        have HN : Hid (likeL (by8 a) (by8 b) = j + 1 + likeL ((by8 a).drop (j + 1)) ((by8 b).drop (j + 1))) := likeL_next (a := by8 a) (b := by8 b) ha1 hb1 hL.out he
        clear hL he
        go_wp2_with fail
        go_quiet (fail)
        go_wp2
        go_roundg (min a.size b.size - (j + 1))
        case measure => omega
        case rel => exact ⟨j + 1, q + nq, by omega, by go_num, HN, by first | rfl | rw [World.drewN_drewN]⟩
      · have hqe : ((a[j].toNat : Int) == (b[j].toNat : Int)) = false := beq_eq_false_iff_ne.mpr (fun e => he (UInt8.toNat_inj.1 (by omega)))
        have HN : Hid (likeL (by8 a) (by8 b) = j) := likeL_stop hL.out (fun _ _ e => he e)
        clear hL he
        go_wp2_with fail
        go_quiet (fail)
        go_wp2
        go_ret
        exact ⟨ret_int (by rw [HN.out]), _, by first | rfl | rw [World.drewN_drewN]⟩
    · have HN : Hid (likeL (by8 a) (by8 b) = j) := likeL_stop hL.out (fun h1 h2 => by rw [by8_size] at h1 h2; omega)
      have hq : decide ((j : Int) < min (a.size : Int) (b.size : Int)) = false := decide_eq_false (by omega)
      clear hL
      go_wp2_with fail
      go_quiet (fail)
      go_wp2
      go_ret
      exact ⟨ret_int (by rw [HN.out]), _, by first | rfl | rw [World.drewN_drewN]⟩
end Go.Proofs.Ytjmojfhkajknlaa
