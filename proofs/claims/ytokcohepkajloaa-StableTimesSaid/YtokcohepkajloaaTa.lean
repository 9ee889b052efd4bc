/- Times: the next one; comparisons. -/
import Derived.Test.YtokcohepkajloaaMw
namespace Go.Proofs.Ytokcohepkajloaa
open Go.RowKit
set_option linter.unusedVariables false
set_option linter.unusedSimpArgs false
def nextT (t : Int) : Int := if 1099511627776 ≤ t then 0 else max t 0 + 1
def nextE (t : Int) : Int := if 1099511627776 ≤ t then 11 else 0
theorem next_any (t : Int) (w : World) (h0 : -9223372036854775808 ≤ t) (h1 : t ≤ 9223372036854775807) :
    Calls Try.prog 18 #[.int .i64 t] w fun e w' => e = .returned (.tuple #[.int .i64 (nextT t), .int .i64 (nextE t)]) ∧ w = w' := by
  unfold nextT nextE
  by_cases h : 1099511627776 ≤ t
  · rw [if_pos h, if_pos h]
    go_enter Try.func18, Try.ntmps18
    go_wp2
    go_ret2
    exact ⟨rfl, rfl⟩
  · rw [if_neg h, if_neg h]
    by_cases h2 : t < 0
    · have e : max t 0 + 1 = 1 := by omega
      rw [e]
      go_enter Try.func18, Try.ntmps18
      go_wp2
      all_goals go_ret2
      all_goals exact ⟨rfl, rfl⟩
    · have e : max t 0 + 1 = t + 1 := by omega
      rw [e]
      go_enter Try.func18, Try.ntmps18
      go_wp2
      all_goals go_ret2
      all_goals exact ⟨rfl, rfl⟩
theorem rnext_any (t : Int) (w : World) (h0 : -9223372036854775808 ≤ t) (h1 : t ≤ 9223372036854775807) :
    Calls Try.prog 19 #[.int .i64 t] w fun e w' => e = .returned (.tuple #[.int .i64 (nextT t), .int .i64 (nextE t)]) ∧ w = w' := by
  unfold nextT nextE
  by_cases h : 1099511627776 ≤ t
  · rw [if_pos h, if_pos h]
    go_enter Try.func19, Try.ntmps19
    go_wp2
    go_ret2
    exact ⟨rfl, rfl⟩
  · rw [if_neg h, if_neg h]
    by_cases h2 : t < 0
    · have e : max t 0 + 1 = 1 := by omega
      rw [e]
      go_enter Try.func19, Try.ntmps19
      go_wp2
      go_ret2
      exact ⟨rfl, rfl⟩
    · have e : max t 0 + 1 = t + 1 := by omega
      rw [e]
      go_enter Try.func19, Try.ntmps19
      go_wp2
      go_ret2
      exact ⟨rfl, rfl⟩
def cmpInt (x y : Int) : Int := if x < y then -1 else if y < x then 1 else 0
theorem cmpc_any (x y : Int) (w : World) :
    Calls Try.prog 28 #[.int .i64 x, .int .i64 y] w fun e w' => e = .returned (.int .i64 (cmpInt x y)) ∧ w = w' := by
  have hn : ∀ x w, Calls Try.prog 34 #[.int .i64 x] w fun e w' => e = .returned (.bool false) ∧ w = w' := by
    intro x w
    go_enter Try.func34, Try.ntmps34
    go_wp2
    go_ret
    exact ⟨by simp, rfl⟩
  by_cases h1 : x < y
  · have hc : cmpInt x y = -1 := if_pos h1
    rw [hc]
    go_enter Try.func28, Try.ntmps28
    go_wp2_with (refine (hn _ _).mono ?_; rintro e w' ⟨rfl, rfl⟩)
    go_ret
    exact ⟨rfl, rfl⟩
  · by_cases h2 : y < x
    · have hc : cmpInt x y = 1 := by rw [cmpInt, if_neg h1, if_pos h2]
      rw [hc]
      go_enter Try.func28, Try.ntmps28
      go_wp2_with (refine (hn _ _).mono ?_; rintro e w' ⟨rfl, rfl⟩)
      go_ret
      exact ⟨rfl, rfl⟩
    · have hc : cmpInt x y = 0 := by rw [cmpInt, if_neg h1, if_neg h2]
      rw [hc]
      go_enter Try.func28, Try.ntmps28
      go_wp2_with (refine (hn _ _).mono ?_; rintro e w' ⟨rfl, rfl⟩)
      go_ret
      exact ⟨rfl, rfl⟩
end Go.Proofs.Ytokcohepkajloaa
