/- A log in memory; grow, turn. -/
import Derived.Test.YtjfpanamkkdebaaJnF
namespace Go.Proofs.Ytjfpanamkkdebaa
open Go.RowKit
set_option linter.unusedVariables false
set_option linter.unusedSimpArgs false
/-- A log's nine cells. -/
structure LgC (w : World) (l hf ep sl pg : Nat) (bv : Value) (g : Nat) (sv rv : Value) (su : Nat) : Prop where
  blk : w.heap[l]? = some (.cells #[.int .i64 hf, .int .i64 ep, .int .i64 sl, .int .i64 pg, bv, .pointer (some ⟨g, 0, none⟩), sv, rv, .int .i64 su] 65 (0, 0))
def growP (pg len n room : Nat) : Bool := decide (pg < room) && decide (n ≤ 113 - len + (room - pg - 1) * 113)
set_option maxHeartbeats 800000 in
theorem grow_any (pg n room c : Nat) (A : Option Addr) (bs : List UInt8) (w : World) (hp : pg ≤ 65536) (hl : bs.length ≤ 113) (hn : n ≤ 1000000000000) (hr : room ≤ 65536) :
    Calls Try.prog 49 #[.agg #[.int .i64 pg, .slice A bs.length c], .int .i64 n, .int .i64 room] w fun e w' => e = .returned (.bool (growP pg bs.length n room)) ∧ Below w.heap.size w w' := by
  unfold growP
  generalize bs.length = L at *
  by_cases h1 : pg < room
  · have hq : (decide (pg < room) && decide (n ≤ 113 - L + (room - pg - 1) * 113)) = decide (n ≤ 113 - L + (room - pg - 1) * 113) := by simp [h1]
    rw [hq]
    clear hq
    have h2 : ((pg : Int) < (room : Int)) := by omega
    go_enter Try.func49, Try.ntmps49
    go_wp2_with fail
    go_ret
    refine ⟨?_, (Below.refl _ _).alloc (Nat.le_refl _) _⟩
    rw [show decide ((n : Int) ≤ 113 - (L : Int) + ((room : Int) - (pg : Int) - 1) * 113) = decide (n ≤ 113 - L + (room - pg - 1) * 113) from decide_eq_decide.2 (by omega)]
    rfl
  · have hq : (decide (pg < room) && decide (n ≤ 113 - L + (room - pg - 1) * 113)) = false := by simp [h1]
    rw [hq]
    clear hq
    have h2 : ¬ ((pg : Int) < (room : Int)) := by omega
    go_enter Try.func49, Try.ntmps49
    go_wp2_with fail
    go_ret
    exact ⟨rfl, (Below.refl _ _).alloc (Nat.le_refl _) _⟩
set_option maxHeartbeats 800000 in
theorem turn_any (l hf ep sl pg : Nat) (bv : Value) (g : Nat) (sv rv : Value) (su : Nat) (w : World) (h : LgC w l hf ep sl pg bv g sv rv su) (hp : pg ≤ 65536) :
    Calls Try.prog 52 #[.pointer (some ⟨l, 0, none⟩)] w fun e w' => e = .returned (.tuple #[]) ∧ LgC w' l hf ep sl (pg + 1) (.slice none 0 0) g sv rv su ∧ Only w w' [l] := by
  have HB := Lib.hid h.blk
  have k3 : w.cell? ⟨l, 3, none⟩ = some (.int .i64 pg) := blk_cell h.blk
  have k4 : w.cell? ⟨l, 4, none⟩ = some bv := blk_cell h.blk
  have f3 : w.frozen? ⟨l, 3, none⟩ = false := blk_free h.blk
  have f4 : w.frozen? ⟨l, 4, none⟩ = false := blk_free h.blk
  clear h
  go_enter Try.func52, Try.ntmps52
  go_wp2_with fail
  refine bodyPost_end (results_none rfl _ _ _) rfl ?_
  have hb1 := heap_setCell_same _ _ 3 _ _ (.int .i64 ((pg : Int) + 1)) HB.out
  have hb2 := heap_setCell_same _ _ 4 _ _ (.slice none 0 0) hb1
  exact ⟨rfl, ⟨hb2⟩, ((Only.of_grown (Lib.grownBy_setCell w l 3 _))).trans (Only.of_grown (Lib.grownBy_setCell _ l 4 _))⟩
end Go.Proofs.Ytjfpanamkkdebaa
