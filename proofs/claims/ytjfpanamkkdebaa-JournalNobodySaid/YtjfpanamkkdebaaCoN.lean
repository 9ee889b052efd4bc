/- A reader that no call made. -/
import Derived.Test.YtjfpanamkkdebaaCoK
import Derived.Handy
namespace Go.Proofs.Ytjfpanamkkdebaa
open Go.RowKit
set_option linter.unusedVariables false
set_option linter.unusedSimpArgs false
/-- A reader: its three cells. -/
structure Rd (w : World) (g : Nat) (v : Value) (e : Int) (m : Bool) : Prop where
  rest : w.cell? ⟨g, 0, none⟩ = some v
  err : w.cell? ⟨g, 1, none⟩ = some (.int .i64 e)
  made : w.cell? ⟨g, 2, none⟩ = some (.bool m)
/-- A reader that no call made: none, or one of zeros. -/
def Nob (w : World) (p : Option Addr) : Prop := p = none ∨ ∃ g, p = some ⟨g, 0, none⟩ ∧ Rd w g (.slice none 0 0) 0 false
theorem nobody_fail (p : Option Addr) (e : Int) (w : World) (h : Nob w p) :
    Calls Try.prog 81 #[.pointer p, .int .i64 e] w fun e w' => e = .returned (.tuple #[]) ∧ w = w' := by
  rcases h with rfl | ⟨g, rfl, h0, h1, h2⟩ <;>
  · go_enter Try.func81, Try.ntmps81
    go_wp2
    go_returns
    exact ⟨rfl, rfl⟩
theorem nobody_err (p : Option Addr) (w : World) (h : Nob w p) :
    Calls Try.prog 60 #[.pointer p] w fun e w' => e = .returned (.int .i64 2) ∧ w = w' := by
  rcases h with rfl | ⟨g, rfl, h0, h1, h2⟩ <;>
  · go_enter Try.func60, Try.ntmps60
    go_wp2
    go_returns
    exact ⟨rfl, rfl⟩
theorem nobody_left (p : Option Addr) (w : World) (h : Nob w p) :
    Calls Try.prog 57 #[.pointer p] w fun e w' => e = .returned (.int .i64 0) ∧ w = w' := by
  rcases h with rfl | ⟨g, rfl, h0, h1, h2⟩ <;>
  · go_enter Try.func57, Try.ntmps57
    go_wp2
    go_returns
    exact ⟨rfl, rfl⟩
theorem nobody_take (p : Option Addr) (n : Int) (w : World) (h : Nob w p) :
    Calls Try.prog 72 #[.pointer p, .int .i64 n] w fun e w' => e = .returned (.tuple #[.slice none 0 0, .bool false]) ∧ w = w' := by
  rcases h with rfl | ⟨g, rfl, h0, h1, h2⟩ <;>
  · go_enter Try.func72, Try.ntmps72
    go_wp2
    go_returns
    exact ⟨rfl, rfl⟩
theorem nobody_raw (p : Option Addr) (w : World) (h : Nob w p) :
    Calls Try.prog 82 #[.pointer p] w fun e w' => e = .returned (.tuple #[.int .u64 0, .bool false]) ∧ w = w' := by
  go_enter Try.func82, Try.ntmps82
  go_wp2_with fail
  refine (nobody_take p 1 w h).mono ?_
  rintro e w' ⟨rfl, rfl⟩
  go_wp2
  go_returns
  exact ⟨rfl, rfl⟩
theorem nobody_num (p : Option Addr) (n : Int) (w : World) (h : Nob w p) :
    Calls Try.prog 73 #[.pointer p, .int .i64 n] w fun e w' => e = .returned (.int .i64 0) ∧ w = w' := by
  go_enter Try.func73, Try.ntmps73
  go_wp2_with fail
  refine (nobody_raw p w h).mono ?_
  rintro e w' ⟨rfl, rfl⟩
  go_wp2
  go_returns
  exact ⟨rfl, rfl⟩
theorem nobody_text (p : Option Addr) (n : Int) (w : World) (h : Nob w p) :
    Calls Try.prog 58 #[.pointer p, .int .i64 n] w fun e w' => e = .returned (.string ByteArray.empty) ∧ w = w' := by
  have k := run_convert_bytes_nil (P := Try.prog) w 29 5 Try.underlying29 Try.underlying5 0 0 9 Try.underlying9
  go_enter Try.func58, Try.ntmps58
  go_wp2_with fail
  refine (nobody_num p n w h).mono ?_
  rintro e w' ⟨rfl, rfl⟩
  go_wp2_with fail
  refine (nobody_take p _ w h).mono ?_
  rintro e w' ⟨rfl, rfl⟩
  go_wp2
  go_returns
  exact ⟨rfl, rfl⟩
end Go.Proofs.Ytjfpanamkkdebaa
