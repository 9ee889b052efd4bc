/- A new device: the walk. -/
import Derived.Test.YtjfpanamkkdebaaPgI
namespace Go.Proofs.Ytjfpanamkkdebaa
open Go.RowKit Go.Maps
set_option linter.unusedVariables false
set_option maxRecDepth 100000
set_option linter.unusedSimpArgs false
theorem own_mono_base {w : World} {base base' : Nat} {e : TypeId} {size n : Nat} {v : Value} {xs : List Value} (h : w.ownsRow base e size v n xs) (hb : base' ≤ base) : w.ownsRow base' e size v n xs := by
  refine ⟨h.1, ?_⟩
  rcases h.2 with h | ⟨g, cap, cur, hv, hg, r⟩
  · exact .inl h
  · exact .inr ⟨g, cap, cur, hv, Nat.le_trans hb hg, r⟩
/-- A new device. -/
def fresh (n : Nat) : Dsk := ⟨false, 0, false, List.replicate n [], fun _ => none⟩
theorem fresh_ok {n : Nat} (h1 : 1 ≤ n) (h2 : n ≤ 4096) : (fresh n).Ok :=
  ⟨by simp [fresh]; omega, by simpa [fresh] using h2, fun s hs => by (rw [(List.mem_replicate.1 hs).2]; simp), fun i s h => (by cases h), by show (0 : Nat) < _; decide⟩
theorem new_not (n : Int) (w : World) (h : n < 1 ∨ 4096 < n) :
    Calls Try.prog 9 #[.int .i64 n] w fun e w' => e = .returned (.tuple #[.pointer none, .int .i64 1]) ∧ w = w' := by
  by_cases h1 : n < 1
  · have hq : decide (n < 1) = true := decide_eq_true h1
    go_enter Try.func9, Try.ntmps9
    go_wp2
    go_ret2
    exact ⟨rfl, rfl⟩
  · have hq : decide (n < 1) = false := decide_eq_false h1
    have hq2 : decide (n > 4096) = true := decide_eq_true (by omega)
    have hq3 : decide (4096 < n) = true := decide_eq_true (by omega)
    go_enter Try.func9, Try.ntmps9
    go_wp2
    go_ret2
    exact ⟨rfl, rfl⟩
set_option maxHeartbeats 800000 in
theorem new_any (n : Nat) (w : World) (h1 : 1 ≤ n) (h2 : n ≤ 4096) :
    Calls Try.prog 9 #[.int .i64 n] w fun e w' => ∃ g k m, e = .returned (.tuple #[.pointer (some ⟨g, 0, none⟩), .int .i64 0]) ∧ DkAt w' g k m n (fresh n) ∧ Below w.heap.size w w' ∧ w.heap.size ≤ g ∧ w.heap.size ≤ k ∧ w.heap.size ≤ m := by
  have hq : decide ((n : Int) < 1) = false := decide_eq_false (by omega)
  have hq2 : decide ((n : Int) > 4096) = false := decide_eq_false (by omega)
  have hq3 : decide ((4096 : Int) < n) = false := decide_eq_false (by omega)
  have HML : Hid (maxLen = 9223372036854775807) := rfl
  have HF := Lib.hid (fresh_ok h1 h2)
  have hmm := @run_makeMap Try.prog
  go_enter Try.func9, Try.ntmps9
  go_wp2_with (refine wpList_mk _ rfl _ _ 76 rfl w.heap.size 9 _ 16 Try.underlying76 info_str rfl _ _ _ _ n n rfl rfl (by rfl) (by rfl) (by omega) (by omega) (by rw [HML.out]; omega) (Nat.le_refl _) ?_; intro w1 hown1 hg1)
  go_ret2
  obtain ⟨_, hkl⟩ := World.ownsRow.lt hown1 w.heap.size rfl
  have hs1 := hg1.size
  have eW : (w1.alloc (.map #[] 0)).heap.size = w1.heap.size + 1 := by simp
  have hb1 : Below w.heap.size w w1 := (Below.refl _ _).grown hg1 (Nat.le_refl _) (by intro k hk; cases hk)
  have hb3 := (hb1.alloc hs1 (.map #[] 0)).alloc (by rw [eW]; omega) (.cells #[.bool false, .int .i64 0, .bool false, .slice (some ⟨w.heap.size, 0, none⟩) n n, .map (some w1.heap.size)] 81)
  refine ⟨w1.heap.size + 1, w.heap.size, w1.heap.size, rfl, ⟨?_, ?_, ?_, HF.out, by omega, by omega, by omega⟩, hb3, by omega, Nat.le_refl _, hs1⟩
  · have h := heap_alloc_new (w1.alloc (.map #[] 0)) (.cells #[.bool false, .int .i64 0, .bool false, .slice (some ⟨w.heap.size, 0, none⟩) n n, .map (some w1.heap.size)] 81)
    rw [eW] at h
    simpa [fresh] using h
  · have h := own_mono_base (base' := 0) (World.ownsRow.alloc (World.ownsRow.alloc hown1 (.map #[] 0)) (.cells #[.bool false, .int .i64 0, .bool false, .slice (some ⟨w.heap.size, 0, none⟩) n n, .map (some w1.heap.size)] 81)) (Nat.zero_le _)
    have hv : vs [] = .string ByteArray.empty := rfl
    simpa [fresh, hv] using h
  · have h := (mapIs_made w1 n).below (w' := (w1.alloc (.map #[] 0)).alloc (.cells #[.bool false, .int .i64 0, .bool false, .slice (some ⟨w.heap.size, 0, none⟩) n n, .map (some w1.heap.size)] 81)) ((Below.refl _ _).alloc (Nat.le_refl _) _)
    simpa [fresh] using h
theorem lies_alloc (w : World) (l : List Value) (t : TypeId) (f : Nat × Nat) : Lies (w.alloc (.cells l.toArray t f)) (some ⟨w.heap.size, 0, none⟩) l := Lies.new w t l f
theorem write_lit (g k m c : Nat) (d : Dsk) (i : Int) (bs : List UInt8) (w : World) (h : DkAt w g k m c d) (hm : bs.length ≤ 9223372036854775807) (cells : Array Value) (hc : cells = (bs.map vb).toArray) (t : TypeId) (f : Nat × Nat) (n : Nat) (hn : n = bs.length) :
    Calls Try.prog 10 #[.pointer (some ⟨g, 0, none⟩), .int .i64 i, .slice (some ⟨w.heap.size, 0, none⟩) n n] (w.alloc (.cells cells t f)) fun e w' => e = .returned (.int .i64 (d.writeE i bs)) ∧ DkAt w' g k m c (d.wrote i bs) ∧ Only w w' [g, k, m] := by
  subst hn
  subst hc
  have hb : Below w.heap.size w (w.alloc (.cells (bs.map vb).toArray t f)) := (Below.refl _ _).alloc (Nat.le_refl _) _
  refine (write_any g k m c d i (some ⟨w.heap.size, 0, none⟩) bs.length bs _ (h.below hb) (lies_alloc w (bs.map vb) t f) ?_ hm).mono ?_
  · intro a ha _
    injection ha with ha
    subst ha
    have := h.lt.1
    simp only
    omega
  · rintro e w' ⟨he, hd, ho⟩
    exact ⟨he, hd, (Only.of_below hb _).trans (ho.mono (fun i h => by simp at h; rcases h with h | h <;> simp [h]))⟩
end Go.Proofs.Ytjfpanamkkdebaa
