/- A reader that no call made. -/
import Derived.Test.YtbeejmedekgjjaaCoK
import Derived.Handy
namespace Go.Proofs.Ytbeejmedekgjjaa
open Go.RowKit
set_option linter.unusedVariables false
set_option linter.unusedSimpArgs false
/-- A reader: its three cells. -/
structure Rd (w : World) (g : Nat) (v : Value) (e : Int) (m : Bool) : Prop where
  rest : w.cell? ⟨g, 0, none⟩ = some v
  err : w.cell? ⟨g, 1, none⟩ = some (.int .i64 e)
  made : w.cell? ⟨g, 2, none⟩ = some (.bool m)
/-- A reader that no call made: none, or one of zeros. -/
def Nob (w : World) (p : Option Addr) : Prop := p = none ∨ ∃ g, p = some ⟨g, 0, none⟩ ∧ Rd w g (.slice none 0 0) 0 false
theorem nobody_fail (p : Option Addr) (e : Int) (w : World) (h : Nob w p) :
    Calls Try.prog 51 #[.pointer p, .int .i64 e] w fun e w' => e = .returned (.tuple #[]) ∧ w = w' := by
  rcases h with rfl | ⟨g, rfl, h0, h1, h2⟩ <;>
  · go_enter Try.func51, Try.ntmps51
    go_wp2
    go_returns
    exact ⟨rfl, rfl⟩
theorem nobody_err (p : Option Addr) (w : World) (h : Nob w p) :
    Calls Try.prog 39 #[.pointer p] w fun e w' => e = .returned (.int .i64 2) ∧ w = w' := by
  rcases h with rfl | ⟨g, rfl, h0, h1, h2⟩ <;>
  · go_enter Try.func39, Try.ntmps39
    go_wp2
    go_returns
    exact ⟨rfl, rfl⟩
theorem nobody_left (p : Option Addr) (w : World) (h : Nob w p) :
    Calls Try.prog 54 #[.pointer p] w fun e w' => e = .returned (.int .i64 0) ∧ w = w' := by
  rcases h with rfl | ⟨g, rfl, h0, h1, h2⟩ <;>
  · go_enter Try.func54, Try.ntmps54
    go_wp2
    go_returns
    exact ⟨rfl, rfl⟩
theorem nobody_end (p : Option Addr) (w : World) (h : Nob w p) :
    Calls Try.prog 40 #[.pointer p] w fun e w' => e = .returned (.int .i64 2) ∧ w = w' := by
  go_enter Try.func40, Try.ntmps40
  go_wp2_with fail
  refine (nobody_left p w h).mono ?_
  rintro e w' ⟨rfl, rfl⟩
  go_wp2_with fail
  refine (nobody_err p w h).mono ?_
  rintro e w' ⟨rfl, rfl⟩
  go_wp2
  go_returns
  exact ⟨rfl, rfl⟩
theorem nobody_take (p : Option Addr) (n : Int) (w : World) (h : Nob w p) :
    Calls Try.prog 56 #[.pointer p, .int .i64 n] w fun e w' => e = .returned (.tuple #[.slice none 0 0, .bool false]) ∧ w = w' := by
  rcases h with rfl | ⟨g, rfl, h0, h1, h2⟩ <;>
  · go_enter Try.func56, Try.ntmps56
    go_wp2
    go_returns
    exact ⟨rfl, rfl⟩
theorem nobody_raw (p : Option Addr) (w : World) (h : Nob w p) :
    Calls Try.prog 50 #[.pointer p] w fun e w' => e = .returned (.tuple #[.int .u64 0, .bool false]) ∧ w = w' := by
  go_enter Try.func50, Try.ntmps50
  go_wp2_with fail
  refine (nobody_take p 1 w h).mono ?_
  rintro e w' ⟨rfl, rfl⟩
  go_wp2
  go_returns
  exact ⟨rfl, rfl⟩
theorem nobody_num (p : Option Addr) (n : Int) (w : World) (h : Nob w p) :
    Calls Try.prog 34 #[.pointer p, .int .i64 n] w fun e w' => e = .returned (.int .i64 0) ∧ w = w' := by
  go_enter Try.func34, Try.ntmps34
  go_wp2_with fail
  refine (nobody_raw p w h).mono ?_
  rintro e w' ⟨rfl, rfl⟩
  go_wp2
  go_returns
  exact ⟨rfl, rfl⟩
theorem nobody_text (p : Option Addr) (n : Int) (w : World) (h : Nob w p) :
    Calls Try.prog 52 #[.pointer p, .int .i64 n] w fun e w' => e = .returned (.string ByteArray.empty) ∧ w = w' := by
  have k := run_convert_bytes_nil (P := Try.prog) w 23 5 Try.underlying23 Try.underlying5 0 0 9 Try.underlying9
  go_enter Try.func52, Try.ntmps52
  go_wp2_with fail
  refine (nobody_num p n w h).mono ?_
  rintro e w' ⟨rfl, rfl⟩
  go_wp2_with fail
  refine (nobody_take p _ w h).mono ?_
  rintro e w' ⟨rfl, rfl⟩
  go_wp2
  go_returns
  exact ⟨rfl, rfl⟩
theorem nobody_rising (p : Option Addr) (n m : Int) (w : World) (h : Nob w p) :
    Calls Try.prog 58 #[.pointer p, .int .i64 n, .int .i64 m] w fun e w' => e = .returned (.slice none 0 0) ∧ w = w' := by
  go_enter Try.func58, Try.ntmps58
  go_wp2_with fail
  refine (nobody_num p n w h).mono ?_
  rintro e w' ⟨rfl, rfl⟩
  go_wp2
  go_loopg [8, 14] 0 (fun r l i wr => wr = w ∧ l = .slice none 0 0 ∧ i = .int .i64 0)
  case atStart => exact ⟨rfl, rfl, rfl⟩
  case round =>
    obtain ⟨rfl, rfl, rfl⟩ := hrel
    go_wp2
    go_returns
    exact ⟨rfl, rfl⟩
end Go.Proofs.Ytbeejmedekgjjaa
