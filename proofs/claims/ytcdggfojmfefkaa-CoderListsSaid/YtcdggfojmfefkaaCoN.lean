/- A reader that no call made. -/
import Derived.Test.YtcdggfojmfefkaaCoK
import Derived.Handy
namespace Go.Proofs.Ytcdggfojmfefkaa
open Go.RowKit
set_option linter.unusedVariables false
set_option linter.unusedSimpArgs false
/-- A reader: its three cells. -/
structure Rd (w : World) (g : Nat) (v : Value) (e : Int) (m : Bool) : Prop where
  rest : w.cell? ⟨g, 0, none⟩ = some v
  err : w.cell? ⟨g, 1, none⟩ = some (.int .i64 e)
  made : w.cell? ⟨g, 2, none⟩ = some (.bool m)
/-- A reader that no call made: none, or one of zeros. -/
def Nob (w : World) (p : Option Addr) : Prop := p = none ∨ ∃ g, p = some ⟨g, 0, none⟩ ∧ Rd w g (.slice none 0 0) 0 false
theorem nobody_fail (p : Option Addr) (e : Int) (w : World) (h : Nob w p) :
    Calls Try.prog 30 #[.pointer p, .int .i64 e] w fun e w' => e = .returned (.tuple #[]) ∧ w = w' := by
  rcases h with rfl | ⟨g, rfl, h0, h1, h2⟩ <;>
  · go_enter Try.func30, Try.ntmps30
    go_wp2
    go_returns
    exact ⟨rfl, rfl⟩
theorem nobody_err (p : Option Addr) (w : World) (h : Nob w p) :
    Calls Try.prog 26 #[.pointer p] w fun e w' => e = .returned (.int .i64 2) ∧ w = w' := by
  rcases h with rfl | ⟨g, rfl, h0, h1, h2⟩ <;>
  · go_enter Try.func26, Try.ntmps26
    go_wp2
    go_returns
    exact ⟨rfl, rfl⟩
theorem nobody_left (p : Option Addr) (w : World) (h : Nob w p) :
    Calls Try.prog 27 #[.pointer p] w fun e w' => e = .returned (.int .i64 0) ∧ w = w' := by
  rcases h with rfl | ⟨g, rfl, h0, h1, h2⟩ <;>
  · go_enter Try.func27, Try.ntmps27
    go_wp2
    go_returns
    exact ⟨rfl, rfl⟩
theorem nobody_end (p : Option Addr) (w : World) (h : Nob w p) :
    Calls Try.prog 31 #[.pointer p] w fun e w' => e = .returned (.int .i64 2) ∧ w = w' := by
  go_enter Try.func31, Try.ntmps31
  go_wp2_with fail
  refine (nobody_left p w h).mono ?_
  rintro e w' ⟨rfl, rfl⟩
  go_wp2_with fail
  refine (nobody_err p w h).mono ?_
  rintro e w' ⟨rfl, rfl⟩
  go_wp2
  go_returns
  exact ⟨rfl, rfl⟩
theorem nobody_take (p : Option Addr) (n : Int) (w : World) (h : Nob w p) :
    Calls Try.prog 38 #[.pointer p, .int .i64 n] w fun e w' => e = .returned (.tuple #[.slice none 0 0, .bool false]) ∧ w = w' := by
  rcases h with rfl | ⟨g, rfl, h0, h1, h2⟩ <;>
  · go_enter Try.func38, Try.ntmps38
    go_wp2
    go_returns
    exact ⟨rfl, rfl⟩
theorem nobody_raw (p : Option Addr) (w : World) (h : Nob w p) :
    Calls Try.prog 37 #[.pointer p] w fun e w' => e = .returned (.tuple #[.int .u64 0, .bool false]) ∧ w = w' := by
  go_enter Try.func37, Try.ntmps37
  go_wp2_with fail
  refine (nobody_take p 1 w h).mono ?_
  rintro e w' ⟨rfl, rfl⟩
  go_wp2
  go_returns
  exact ⟨rfl, rfl⟩
theorem nobody_num (p : Option Addr) (n : Int) (w : World) (h : Nob w p) :
    Calls Try.prog 23 #[.pointer p, .int .i64 n] w fun e w' => e = .returned (.int .i64 0) ∧ w = w' := by
  go_enter Try.func23, Try.ntmps23
  go_wp2_with fail
  refine (nobody_raw p w h).mono ?_
  rintro e w' ⟨rfl, rfl⟩
  go_wp2
  go_returns
  exact ⟨rfl, rfl⟩
theorem nobody_sign (p : Option Addr) (w : World) (h : Nob w p) :
    Calls Try.prog 24 #[.pointer p] w fun e w' => e = .returned (.int .i64 0) ∧ w = w' := by
  go_enter Try.func24, Try.ntmps24
  go_wp2_with fail
  refine (nobody_raw p w h).mono ?_
  rintro e w' ⟨rfl, rfl⟩
  go_wp2
  go_returns
  exact ⟨rfl, rfl⟩
theorem nobody_text (p : Option Addr) (n : Int) (w : World) (h : Nob w p) :
    Calls Try.prog 25 #[.pointer p, .int .i64 n] w fun e w' => e = .returned (.string ByteArray.empty) ∧ w = w' := by
  have k := run_convert_bytes_nil (P := Try.prog) w 22 5 Try.underlying22 Try.underlying5 0 0 9 Try.underlying9
  go_enter Try.func25, Try.ntmps25
  go_wp2_with fail
  refine (nobody_num p n w h).mono ?_
  rintro e w' ⟨rfl, rfl⟩
  go_wp2_with fail
  refine (nobody_take p _ w h).mono ?_
  rintro e w' ⟨rfl, rfl⟩
  go_wp2
  go_returns
  exact ⟨rfl, rfl⟩
theorem nobody_rising (p : Option Addr) (n m : Int) (w : World) (h : Nob w p) :
    Calls Try.prog 29 #[.pointer p, .int .i64 n, .int .i64 m] w fun e w' => e = .returned (.slice none 0 0) ∧ w = w' := by
  go_enter Try.func29, Try.ntmps29
  go_wp2_with fail
  refine (nobody_num p n w h).mono ?_
  rintro e w' ⟨rfl, rfl⟩
  go_wp2
  go_loopg [8, 14] 0 (fun r l i wr => wr = w ∧ l = .slice none 0 0 ∧ i = .int .i64 0)
  case atStart => exact ⟨rfl, rfl, rfl⟩
  case round =>
    obtain ⟨rfl, rfl, rfl⟩ := hrel
    go_wp2
    go_returns
    exact ⟨rfl, rfl⟩
set_option maxHeartbeats 1600000 in
theorem coderNobody_walk (n top e : Int) (w : World) (hw : (Lit.int .i64 n).wf = true) (hw2 : (Lit.int .i64 top).wf = true) (hw3 : (Lit.int .i64 e).wf = true) :
    Calls Try.prog 8 #[.int .i64 n, .int .i64 top, .int .i64 e] w fun e w' => e = .returned (.bool true) ∧ Below w.heap.size w w' := by
  have he := wf_i64 hw3
  go_enter Try.func8, Try.ntmps8
  go_wp2_with fail
  generalize hW : (w.alloc (.cells #[.slice none 0 0, .int .i64 0, .bool false] 47)).alloc (.cells #[.pointer none, .pointer (some ⟨w.heap.size, 0, none⟩)] 35) = W
  have hc0 : W.cell? ⟨w.heap.size + 1, 0, none⟩ = some (.pointer none) := by subst hW; go_cell
  have hc1 : W.cell? ⟨w.heap.size + 1, 1, none⟩ = some (.pointer (some ⟨w.heap.size, 0, none⟩)) := by subst hW; go_cell
  have hrd : Rd W w.heap.size (.slice none 0 0) 0 false := by subst hW; exact ⟨by go_cell, by go_cell, by go_cell⟩
  have hbW : Below w.heap.size w W := by subst hW; go_grown
  clear hW
  go_loopg [8, 13] 2 (fun r p i wr => wr = W ∧ ∃ j : Nat, j + r = 2 ∧ i = .int .i64 j)
  case atStart => exact ⟨rfl, 0, by omega, rfl⟩
  case round =>
    obtain ⟨rfl, j, hj, rfl⟩ := hrel
    obtain rfl | rfl | rfl : j = 0 ∨ j = 1 ∨ j = 2 := by omega
    · have hp : Nob wr none := .inl rfl
      go_wp2_with (first | (go_at_call 30; refine (nobody_fail _ _ _ hp).mono ?_; rintro e w' ⟨rfl, rfl⟩) | (go_at_call 23; refine (nobody_num _ _ _ hp).mono ?_; rintro e w' ⟨rfl, rfl⟩) | (go_at_call 24; refine (nobody_sign _ _ hp).mono ?_; rintro e w' ⟨rfl, rfl⟩) | (go_at_call 25; refine (nobody_text _ _ _ hp).mono ?_; rintro e w' ⟨rfl, rfl⟩) | (go_at_call 29; refine (nobody_rising _ _ _ _ hp).mono ?_; rintro e w' ⟨rfl, rfl⟩) | (go_at_call 27; refine (nobody_left _ _ hp).mono ?_; rintro e w' ⟨rfl, rfl⟩) | (go_at_call 26; refine (nobody_err _ _ hp).mono ?_; rintro e w' ⟨rfl, rfl⟩) | (go_at_call 31; refine (nobody_end _ _ hp).mono ?_; rintro e w' ⟨rfl, rfl⟩))
      go_roundg 1
      case measure => omega
      case rel => exact ⟨rfl, 1, by omega, rfl⟩
    · have hp : Nob wr (some ⟨w.heap.size, 0, none⟩) := .inr ⟨_, rfl, hrd⟩
      go_wp2_with (first | (go_at_call 30; refine (nobody_fail _ _ _ hp).mono ?_; rintro e w' ⟨rfl, rfl⟩) | (go_at_call 23; refine (nobody_num _ _ _ hp).mono ?_; rintro e w' ⟨rfl, rfl⟩) | (go_at_call 24; refine (nobody_sign _ _ hp).mono ?_; rintro e w' ⟨rfl, rfl⟩) | (go_at_call 25; refine (nobody_text _ _ _ hp).mono ?_; rintro e w' ⟨rfl, rfl⟩) | (go_at_call 29; refine (nobody_rising _ _ _ _ hp).mono ?_; rintro e w' ⟨rfl, rfl⟩) | (go_at_call 27; refine (nobody_left _ _ hp).mono ?_; rintro e w' ⟨rfl, rfl⟩) | (go_at_call 26; refine (nobody_err _ _ hp).mono ?_; rintro e w' ⟨rfl, rfl⟩) | (go_at_call 31; refine (nobody_end _ _ hp).mono ?_; rintro e w' ⟨rfl, rfl⟩))
      go_roundg 0
      case measure => omega
      case rel => exact ⟨rfl, 2, by omega, rfl⟩
    · go_wp2_with (go_at_call 15; refine (awake_any _).mono ?_; rintro e w' ⟨rfl, hb⟩)
      go_ret
      exact ⟨rfl, hbW.trans (hb.mono hbW.size)⟩
end Go.Proofs.Ytcdggfojmfefkaa
