/- What was synced is there behind any crash: plain. -/
import Derived.Test.YtjfjeajbekhmdaaPgY
import Derived.Test.YtjfjeajbekhmdaaPgE
import Derived.Test.YtjfjeajbekhmdaaPgJ
namespace Go.Proofs.Ytjfjeajbekhmdaa
open Go.RowKit
set_option linter.unusedVariables false
set_option linter.unusedSimpArgs false
/-- Page 3 of eight is there for good. -/
structure Safe (d : Dsk) (b : List UInt8) : Prop where
  k8 : d.kept.length = 8
  k3 : d.kept.getD 3 [] = pad b
  l3 : d.loose 3 = none
theorem Safe.now {d : Dsk} {b : List UInt8} (h : Safe d b) : d.now 3 = pad b := by
  unfold Dsk.now
  rw [h.l3]
  exact h.k3
theorem Deed.kind_lt (k : Deed) : k.kind < 6 := Int.tmod_lt_of_pos _ (by decide)
theorem getD_map_range {n i : Nat} (f : Nat → List UInt8) (h : i < n) : ((List.range n).map f).getD i [] = f i := by
  simp [List.getD_eq_getElem?_getD, h]
theorem Safe.acted {d : Dsk} {b : List UInt8} (h : Safe d b) : Safe d.acted b :=
  ⟨by rw [d.acted_kept]; exact h.k8, by rw [d.acted_kept]; exact h.k3, by rw [d.acted_loose]; exact h.l3⟩
theorem Safe.synced {d : Dsk} {b : List UInt8} (h : Safe d b) : Safe d.synced b := by
  unfold Dsk.synced
  split
  · exact h.acted
  · exact ⟨by simpa using h.k8, by rw [h.k8, getD_map_range _ (by decide)]; exact h.now, rfl⟩
theorem Safe.crashed {d : Dsk} {b : List UInt8} (h : Safe d b) (keep : List Int) (t c : Int) : Safe (d.crashed keep t c) b := by
  refine ⟨by simpa [Dsk.crashed] using h.k8, ?_, rfl⟩
  unfold Dsk.crashed
  rw [h.k8, getD_map_range _ (by decide)]
  unfold Dsk.after
  rw [h.l3]
  exact h.k3
theorem Safe.wrote {d : Dsk} {b : List UInt8} (h : Safe d b) {i : Int} (hi : i ≠ 3) (c : List UInt8) : Safe (d.wrote i c) b := by
  unfold Dsk.wrote
  split
  · exact h
  · rename_i ha
    have h0 : 0 ≤ i := by
      unfold Dsk.askE at ha
      split at ha
      · rename_i h; exact h.1
      · exact absurd (by decide) ha
    split
    · exact h
    · split
      · exact h.acted
      · have k := h.acted
        refine ⟨k.k8, k.k3, ?_⟩
        show (if 3 = i.toNat then _ else _) = _
        rw [if_neg (by omega)]
        exact h.l3
theorem Safe.did {d : Dsk} {b : List UInt8} (h : Safe d b) {k : Deed} (hk : k.i ≠ 3 ∨ 2 < k.kind) : Safe (d.did k) b := by
  have hlt := k.kind_lt
  unfold Dsk.did
  split
  · exact h.synced
  · split
    · exact h.crashed _ _ _
    · split
      · unfold Dsk.fused
        split
        · exact h
        · exact ⟨h.k8, h.k3, h.l3⟩
      · exact h.wrote (by omega) _
theorem safe_writeE {b : List UInt8} (hb : b.length ≤ 128) : (fresh 8).writeE 3 b = 0 := by
  have e : (fresh 8).askE 3 = 0 := rfl
  have e2 : (fresh 8).actE = 0 := rfl
  unfold Dsk.writeE
  rw [e, if_neg (by decide), if_neg (by omega), e2]
theorem safe_stops (b : List UInt8) : ((fresh 8).wrote 3 b).stops = false := by
  unfold Dsk.wrote
  split
  · rfl
  · split
    · rfl
    · split <;> rfl
theorem safe_actE (b : List UInt8) : ((fresh 8).wrote 3 b).actE = 0 := by
  unfold Dsk.actE
  rw [safe_stops]
  rfl
theorem safe_start {b : List UInt8} (hb : b.length ≤ 128) : Safe ((fresh 8).wrote 3 b).synced b := by
  have e : (fresh 8).askE 3 = 0 := rfl
  have e2 : (fresh 8).stops = false := rfl
  have e3 : ((fresh 8).wrote 3 b).kept.length = 8 := by
    unfold Dsk.wrote
    split
    · rfl
    · split
      · rfl
      · split <;> rfl
  have e4 : ((fresh 8).wrote 3 b).now 3 = pad b := by
    unfold Dsk.wrote
    rw [e, if_neg (by decide), if_neg (by omega), e2]
    rfl
  unfold Dsk.synced
  rw [safe_stops]
  refine ⟨by simpa using e3, ?_, rfl⟩
  show ((List.range _).map _).getD 3 [] = _
  rw [e3, getD_map_range _ (by decide)]
  exact e4
theorem Safe.readE {d : Dsk} {b : List UInt8} (h : Safe d b) (keep : List Int) (t c : Int) : (d.crashed keep t c).readE 3 = 0 := by
  have h8 := (h.crashed keep t c).k8
  have hd : (d.crashed keep t c).dead = false := rfl
  simp [Dsk.readE, Dsk.askE, h8, hd]
theorem Safe.read {d : Dsk} {b : List UInt8} (h : Safe d b) (hb : b.length ≤ 128) : pad (d.now 3) = pad b := by
  rw [h.now, pad_pad hb]
end Go.Proofs.Ytjfjeajbekhmdaa
