/- The document's new device has what our new one has. -/
import Derived.Test.YtjfjeajbekhmdaaPgW
namespace Go.Proofs.Ytjfjeajbekhmdaa
open Go.RowKit Go.Maps
set_option linter.unusedVariables false
set_option linter.unusedSimpArgs false
theorem own_some {w : World} {b n : Nat} {e : TypeId} {v : Value} {xs : List Value} (h : w.ownsRow b e 1 v n xs) (hn : 1 ≤ n) : ∃ k c, v = .slice (some ⟨k, 0, none⟩) n c ∧ b ≤ k := by
  rcases h.2 with ⟨_, h0⟩ | ⟨k, c, cur, hv, hb, _⟩
  · omega
  · exact ⟨k, c, hv, hb⟩
theorem fresh_nows (n : Nat) : (fresh n).nows = List.replicate n (pad []) := by
  refine List.ext_getElem (by simp [Dsk.nows, fresh]) fun i h1 h2 => ?_
  simp [Dsk.nows, Dsk.now, fresh, List.getElem?_replicate]
  split <;> rfl
theorem fresh_hads (n : Nat) : (fresh n).hads = List.replicate n (pad []) := by
  refine List.ext_getElem (by simp [Dsk.hads, fresh]) fun i h1 h2 => ?_
  simp [Dsk.hads, fresh, List.getElem?_replicate]
  split <;> rfl
theorem fresh_iss (n : Nat) : (fresh n).iss = List.replicate n false := by
  refine List.ext_getElem (by simp [Dsk.iss, fresh]) fun i h1 h2 => ?_
  simp [Dsk.iss, fresh]
theorem Mk.at {w : World} {g n : Nat} {vN vH vI : Value} (h : Mk w g n n n vN vH vI) (hn : 1 ≤ n) : ∃ a b c x y z, RfAt w g a b c x y z (fresh n) ∧ g + 1 ≤ a ∧ g + 1 ≤ b ∧ g + 1 ≤ c := by
  obtain ⟨a, x, ha, la⟩ := own_some h.rn hn
  obtain ⟨b, y, hb, lb⟩ := own_some h.rh hn
  obtain ⟨c, z, hc, lc⟩ := own_some h.ri hn
  subst ha
  subst hb
  subst hc
  refine ⟨a, b, c, x, y, z, ?_, la, lb, lc⟩
  have e : (fresh n).kept.length = n := by simp [fresh]
  have e2 : (fresh n).leftI = -1 := rfl
  have e3 : (fresh n).dead = false := rfl
  unfold RfAt
  rw [fresh_nows, fresh_hads, fresh_iss, e, e2, e3]
  have m1 := h.nh a rfl
  have m2 := h.ni a rfl
  have m3 := h.hi b rfl
  rw [ob] at m1 m2 m3
  refine ⟨h.blk, ?_, ?_, ?_, by omega, by omega, by omega, fun e => m1 (by rw [e]), fun e => m2 (by rw [e]), fun e => m3 (by rw [e])⟩
  · rw [List.map_replicate]; exact own_mono_base h.rn (Nat.zero_le _)
  · rw [List.map_replicate]; exact own_mono_base h.rh (Nat.zero_le _)
  · rw [List.map_replicate]; exact own_mono_base h.ri (Nat.zero_le _)
end Go.Proofs.Ytjfjeajbekhmdaa
