/- Words that all walks share: how a list of bytes, of numbers, lies in memory. -/
import Derived.WalkKit
import Derived.Laws.OwnMore
import Derived.Below
import Derived.Lib.Hide
namespace Go.Proofs.Ytjfpanamkkdebaa
open Go.RowKit
/-- A byte as the cell that holds it. -/
def vb (b : UInt8) : Value := .int .u8 (b.toNat : Int)
/-- Values lie in a row at an address; of no values nothing is said. -/
def Lies (w : World) (A : Option Addr) (vs : List Value) : Prop := ∀ k v, vs[k]? = some v → ∃ a, A = some a ∧ w.cell? (a.add k) = some v
theorem Lies.at {w : World} {A : Option Addr} {vs : List Value} (h : Lies w A vs) {k : Nat} (hk : k < vs.length) : ∃ a, A = some a ∧ w.cell? (a.add k) = some vs[k] :=
  h k _ (List.getElem?_eq_getElem hk)
theorem Lies.nil (w : World) (A : Option Addr) : Lies w A [] := fun k v h => by simp at h
/-- What was there lies there behind a call that turns nothing that was there. -/
theorem Lies.below {w w' : World} {A : Option Addr} {vs : List Value} (h : Lies w A vs) (hb : Below w.heap.size w w') : Lies w' A vs := by
  intro k v hk
  obtain ⟨a, rfl, hc⟩ := h k v hk
  have hlt := World.block_lt_of_cell? w _ hc
  exact ⟨a, rfl, by rw [hb.cell hlt]; exact hc⟩
/-- Bytes lie in a row at an address. -/
def RB (w : World) (A : Option Addr) (bs : List UInt8) : Prop := Lies w A (bs.map vb)
theorem RB.at {w : World} {A : Option Addr} {bs : List UInt8} (h : RB w A bs) {k : Nat} (hk : k < bs.length) : ∃ a, A = some a ∧ w.cell? (a.add k) = some (.int .u8 (bs[k].toNat : Int)) := by
  obtain ⟨a, ha, hc⟩ := Lies.at h (k := k) (by simpa using hk)
  exact ⟨a, ha, by simpa [vb] using hc⟩
theorem RB.below {w w' : World} {A : Option Addr} {bs : List UInt8} (h : RB w A bs) (hb : Below w.heap.size w w') : RB w' A bs := Lies.below h hb
theorem ret_int {k : IntKind} {a b : Int} (h : a = b) : Ending.returned (.int k a) = .returned (.int k b) := by rw [h]
end Go.Proofs.Ytjfpanamkkdebaa
