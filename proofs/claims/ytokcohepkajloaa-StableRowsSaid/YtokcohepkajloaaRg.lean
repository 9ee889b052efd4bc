/- The walk of the law of rows, of any number. -/
import Derived.Test.YtokcohepkajloaaRf
import Derived.Test.YtokcohepkajloaaMr
namespace Go.Proofs.Ytokcohepkajloaa
open Go.RowKit
theorem stableRows_walk (n : Int) (A : Option Addr) (c : Nat) (l : List (Int × List Int)) (rep : Int) (v : List Int) (w : World) (_hn : (Lit.int .i64 n).wf = true) (hr : Lies w A (l.flatMap hc)) (hA : A = none → c = 0) (hlc : l.length ≤ c) (hv : ∀ h ∈ l, h.2.length = 64) (hm : l.length ≤ 9223372036854775807) (_hp : (Lit.int .i64 rep).wf = true) (hvl : v.length = 64) :
    Calls Try.prog 5 #[.int .i64 n, .slice A l.length c, .int .i64 rep, vv v] w fun e w' => e = .returned (.bool true) ∧ Below w.heap.size w w' := by
  by_cases h : n < 1 ∨ 64 < n
  · exact rows_none n A c l.length rep v w h
  · obtain ⟨m, rfl⟩ : ∃ m : Nat, n = (m : Int) := ⟨n.toNat, by omega⟩
    exact rows_some m A c l rep v w (by omega) (by omega) hr hA hlc hv hm hvl
end Go.Proofs.Ytokcohepkajloaa
