/- A device of pages, plain: what it has, and what each act makes of it. -/
import Derived.Test.YtjfpanamkkdebaaLaws
namespace Go.Proofs.Ytjfpanamkkdebaa
open Go.RowKit
set_option linter.unusedVariables false
/-- A page: bytes, and noughts behind them. -/
def pad (s : List UInt8) : List UInt8 := s ++ List.replicate (128 - s.length) 0
theorem pad_length {s : List UInt8} (h : s.length ≤ 128) : (pad s).length = 128 := by simp [pad]; omega
theorem pad_full {s : List UInt8} (h : s.length = 128) : pad s = s := by simp [pad, h]
theorem pad_pad {s : List UInt8} (h : s.length ≤ 128) : pad (pad s) = pad s := pad_full (pad_length h)
/-- A device: is it bound, how many acts are left, has it stopped; what is there for good; what was written since. -/
structure Dsk where
  bound : Bool
  left : Nat
  dead : Bool
  kept : List (List UInt8)
  loose : Nat → Option (List UInt8)
/-- One act: it stops where none is left. -/
def Dsk.stops (d : Dsk) : Bool := d.dead || (d.bound && d.left == 0)
def Dsk.acted (d : Dsk) : Dsk := if d.stops then { d with dead := true } else if d.bound then { d with left := d.left - 1 } else d
def Dsk.actE (d : Dsk) : Nat := if d.stops then 9 else 0
/-- What a page has now. -/
def Dsk.now (d : Dsk) (i : Nat) : List UInt8 := match d.loose i with | some s => s | none => d.kept.getD i []
/-- Why there is no such page; 0: there is. -/
def Dsk.askE (d : Dsk) (i : Int) : Nat := if 0 ≤ i ∧ i < d.kept.length then 0 else 1
def Dsk.writeE (d : Dsk) (i : Int) (b : List UInt8) : Nat := if d.askE i ≠ 0 then 1 else if 128 < b.length then 1 else d.actE
def Dsk.wrote (d : Dsk) (i : Int) (b : List UInt8) : Dsk :=
  if d.askE i ≠ 0 then d else if 128 < b.length then d else if d.stops then d.acted else { d.acted with loose := fun j => if j = i.toNat then some (pad b) else d.loose j }
def Dsk.synced (d : Dsk) : Dsk :=
  if d.stops then d.acted else { d.acted with kept := (List.range d.kept.length).map d.now, loose := fun _ => none }
/-- What a crash makes of a page. -/
def Dsk.after (d : Dsk) (keep : List Int) (torn : Int) (cut : Nat) (i : Nat) : List UInt8 :=
  match d.loose i with
  | none => d.kept.getD i []
  | some s => if (i : Int) = torn then s.take cut ++ (pad (d.kept.getD i [])).drop cut else if (i : Int) ∈ keep then s else d.kept.getD i []
def cutOf (cut : Int) : Nat := (min (max cut 0) 128).toNat
def Dsk.crashed (d : Dsk) (keep : List Int) (torn cut : Int) : Dsk :=
  ⟨false, 0, false, (List.range d.kept.length).map (d.after keep torn (cutOf cut)), fun _ => none⟩
def Dsk.fuseE (d : Dsk) : Nat := if d.dead then 9 else 0
def Dsk.fused (d : Dsk) (n : Int) : Dsk := if d.dead then d else { d with bound := decide (0 ≤ n), left := n.toNat }
/-- The pages that were written since, rising. -/
def Dsk.looseL (d : Dsk) : List Int := ((List.range d.kept.length).filter fun i => (d.loose i).isSome).map fun i : Nat => (i : Int)
/-- What holds of all devices that calls make. -/
structure Dsk.Ok (d : Dsk) : Prop where
  pos : 0 < d.kept.length
  most : d.kept.length ≤ 4096
  kept : ∀ s ∈ d.kept, s.length ≤ 128
  loose : ∀ i s, d.loose i = some s → i < d.kept.length ∧ s.length = 128
  left : d.left < 9223372036854775808
theorem Dsk.acted_kept (d : Dsk) : d.acted.kept = d.kept := by unfold Dsk.acted; split; rfl; split <;> rfl
theorem Dsk.acted_loose (d : Dsk) : d.acted.loose = d.loose := by unfold Dsk.acted; split; rfl; split <;> rfl
theorem Dsk.acted_left (d : Dsk) : d.acted.left ≤ d.left := by unfold Dsk.acted; split; exact Nat.le_refl _; split; exact Nat.sub_le _ _; exact Nat.le_refl _
theorem Dsk.Ok.acted {d : Dsk} (h : d.Ok) : d.acted.Ok :=
  ⟨by rw [d.acted_kept]; exact h.pos, by rw [d.acted_kept]; exact h.most, by rw [d.acted_kept]; exact h.kept, by rw [d.acted_kept, d.acted_loose]; exact h.loose, Nat.lt_of_le_of_lt d.acted_left h.left⟩
theorem Dsk.Ok.keptAt {d : Dsk} (h : d.Ok) (i : Nat) : (d.kept.getD i []).length ≤ 128 := by
  rw [List.getD_eq_getElem?_getD]
  cases e : d.kept[i]? with
  | none => simp
  | some s => exact h.kept s (List.mem_of_getElem? e)
theorem Dsk.Ok.now {d : Dsk} (h : d.Ok) (i : Nat) : (d.now i).length ≤ 128 := by
  unfold Dsk.now
  split
  · rename_i s e; exact Nat.le_of_eq (h.loose i s e).2
  · exact h.keptAt i
theorem Dsk.Ok.after {d : Dsk} (h : d.Ok) (keep : List Int) (torn : Int) {cut : Nat} (hc : cut ≤ 128) (i : Nat) : (d.after keep torn cut i).length ≤ 128 := by
  unfold Dsk.after
  split
  · exact h.keptAt i
  · rename_i s e
    have := (h.loose i s e).2
    split
    · rw [List.length_append, List.length_take, List.length_drop, pad_length (h.keptAt i)]; omega
    · split
      · omega
      · exact h.keptAt i
theorem cutOf_le (cut : Int) : cutOf cut ≤ 128 := by unfold cutOf; omega
theorem Dsk.Ok.wrote {d : Dsk} (h : d.Ok) (i : Int) (b : List UInt8) : (d.wrote i b).Ok := by
  unfold Dsk.wrote
  split
  · exact h
  · rename_i ha
    have hi : 0 ≤ i ∧ i < d.kept.length := by
      unfold Dsk.askE at ha
      split at ha
      · assumption
      · exact absurd (by decide) ha
    split
    · exact h
    · rename_i hb
      split
      · exact h.acted
      · have k := h.acted
        refine ⟨k.pos, k.most, k.kept, fun j s hj => ?_, k.left⟩
        show j < d.acted.kept.length ∧ _
        rw [d.acted_kept]
        simp only at hj
        split at hj
        · rename_i e
          injection hj with hj
          exact ⟨by omega, by rw [← hj]; exact pad_length (by omega)⟩
        · exact h.loose j s hj
theorem Dsk.Ok.synced {d : Dsk} (h : d.Ok) : d.synced.Ok := by
  unfold Dsk.synced
  split
  · exact h.acted
  · have k := h.acted
    refine ⟨by simpa using h.pos, by simpa using h.most, fun s hs => ?_, fun j s hj => (by cases hj), k.left⟩
    obtain ⟨i, _, rfl⟩ := List.mem_map.1 hs
    exact h.now i
theorem Dsk.Ok.crashed {d : Dsk} (h : d.Ok) (keep : List Int) (torn cut : Int) : (d.crashed keep torn cut).Ok := by
  refine ⟨by simpa [Dsk.crashed] using h.pos, by simpa [Dsk.crashed] using h.most, fun s hs => ?_, fun j s hj => (by cases hj), by show (0 : Nat) < _; decide⟩
  obtain ⟨i, _, rfl⟩ := List.mem_map.1 hs
  exact h.after keep torn (cutOf_le cut) i
theorem Dsk.Ok.fused {d : Dsk} (h : d.Ok) {n : Int} (hn : n ≤ 9223372036854775807) : (d.fused n).Ok := by
  unfold Dsk.fused
  split
  · exact h
  · exact ⟨h.pos, h.most, h.kept, h.loose, by show n.toNat < _; omega⟩
end Go.Proofs.Ytjfpanamkkdebaa
