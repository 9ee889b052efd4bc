/- TrailingZeros64; a set in memory; its small calls. -/
import Derived.Test.YtopgikjmeebgbaaDoorBb
import Derived.Test.YtopgikjmeebgbaaDoorBc
import Derived.Test.YtopgikjmeebgbaaDoorLaws
import Derived.Test.YtopgikjmeebgbaaDoorRow
import Derived.Lib.Hide
import Derived.Deep.RegionLaw
import Derived.BigQuiet
import Derived.Deep.QuietTactic
import Derived.Shelf.Spec.TrailingZeros
namespace Go.Proofs.YtopgikjmeebgbaaDoor
open Go.RowKit
set_option linter.unusedVariables false
set_option linter.unusedSimpArgs false
theorem tz_core (x k idx : Nat) (w : World) (hx0 : ((x : Int) == 0) = false)
    (key : IntKind.u64.wrap (bits BinOp.and IntKind.u64 (x : Int) (IntKind.u64.wrap (-(x : Int))) * 285870213051353865) / 288230376151711744 = (idx : Int))
    (hi : idx < 64) (hk : k < 64) (hcell : w.cell? ⟨0, idx, none⟩ = some (.int .u8 k)) :
    Calls Tryd.prog 42 #[.int .u64 x] w fun e w' => e = .returned (.int .i64 k) ∧ w = w' := by
  go_enter Tryd.func42, Tryd.ntmps42
  go_wp2_with (simp only [key])
  go_ret
  exact ⟨rfl, rfl⟩
theorem tz_zero (w : World) : Calls Tryd.prog 42 #[.int .u64 0] w fun e w' => e = .returned (.int .i64 64) ∧ w = w' := by
  go_enter Tryd.func42, Tryd.ntmps42
  go_wp2
  go_ret
  exact ⟨rfl, rfl⟩
/-- The library's table in its variable. -/
def Tab (w : World) : Prop := ∀ j, j < 64 → w.cell? ⟨0, j, none⟩ = some (.int .u8 (Lib.deBruijn64tab.getD j 0))
theorem Tab.below {w w' : World} (h : Tab w) (hb : Below w.heap.size w w') : Tab w' := fun j hj => by
  rw [hb.cell (World.block_lt_of_cell? w _ (h j hj))]; exact h j hj
theorem Tab.pos {w : World} (h : Tab w) : 0 < w.heap.size := World.block_lt_of_cell? w _ (h 0 (by decide))
theorem Tab.block {w w' : World} (h : Tab w) (h0 : w'.heap[0]? = w.heap[0]?) : Tab w' := fun j hj => by
  rw [World.cell?_of_block h0]; exact h j hj
theorem tz_any (x : Nat) (hx : x < 18446744073709551616) (hx0 : x ≠ 0) (w : World) (hT : Tab w) :
    Calls Tryd.prog 42 #[.int .u64 x] w fun e w' => e = .returned (.int .i64 (Lib.ctz 64 x)) ∧ w = w' := by
  obtain ⟨hlow, hk⟩ := Lib.lowest_bit 64 x hx0 hx
  obtain ⟨hi, htab⟩ := Lib.deBruijn64_at _ hk
  have hcell := hT _ hi
  rw [htab] at hcell
  exact tz_core x _ _ w (by simp; omega) (tz64_key x _ hx hx0 hlow) hi hk hcell
/-- A set in memory: the box in block g, the words in block W. -/
structure SetAt (w : World) (g W : Nat) (bs : List Bool) : Prop where
  box : w.heap[g]? = some (.cells #[.int .i64 bs.length, .slice (some ⟨W, 0, none⟩) (nw bs.length) (nw bs.length), .bool true] 41 (0, 0))
  word : ∀ k, k < nw bs.length → w.cell? ⟨W, k, none⟩ = some (.int .u64 (wd bs k))
  free : ∀ k, k < nw bs.length → w.frozen? ⟨W, k, none⟩ = false
  lt : W < g
  small : bs.length ≤ 65536
theorem SetAt.glt {w : World} {g W : Nat} {bs : List Bool} (h : SetAt w g W bs) : g < w.heap.size := (Array.getElem?_eq_some_iff.1 h.box).1
theorem SetAt.blocks {w w' : World} {g W : Nat} {bs : List Bool} (h : SetAt w g W bs) (hg : w'.heap[g]? = w.heap[g]?) (hW : w'.heap[W]? = w.heap[W]?) : SetAt w' g W bs :=
  ⟨by rw [hg]; exact h.box, fun k hk => by rw [World.cell?_of_block hW]; exact h.word k hk, fun k hk => by rw [World.frozen?_of_block hW]; exact h.free k hk, h.lt, h.small⟩
theorem SetAt.below {w w' : World} {g W : Nat} {bs : List Bool} (h : SetAt w g W bs) (hb : Below w.heap.size w w') : SetAt w' g W bs :=
  h.blocks (hb.block g h.glt) (hb.block W (Nat.lt_trans h.lt h.glt))
theorem SetAt.c0 {w : World} {g W : Nat} {bs : List Bool} (h : SetAt w g W bs) : w.cell? ⟨g, 0, none⟩ = some (.int .i64 bs.length) := by simp [World.cell?, h.box]
theorem SetAt.c1 {w : World} {g W : Nat} {bs : List Bool} (h : SetAt w g W bs) : w.cell? ⟨g, 1, none⟩ = some (.slice (some ⟨W, 0, none⟩) (nw bs.length) (nw bs.length)) := by simp [World.cell?, h.box]
theorem SetAt.c2 {w : World} {g W : Nat} {bs : List Bool} (h : SetAt w g W bs) : w.cell? ⟨g, 2, none⟩ = some (.bool true) := by simp [World.cell?, h.box]
theorem SetAt.put {w : World} {g W : Nat} {bs : List Bool} (h : SetAt w g W bs) (i : Nat) (hi : i < bs.length) (b : Bool) : SetAt (w.setCell ⟨W, i / 64, none⟩ (.int .u64 (wd (bs.set i b) (i / 64)))) g W (bs.set i b) := by
  have hl := h.lt
  refine ⟨?_, fun k hk => ?_, fun k hk => ?_, hl, by rw [List.length_set]; exact h.small⟩
  · rw [heap_setCell_other _ _ _ _ (show g ≠ W by omega), List.length_set]; exact h.box
  · rw [List.length_set] at hk
    by_cases e : k = i / 64
    · subst e
      exact World.cell?_setCell_same _ _ _ (h.word _ hk)
    · rw [World.cell?_setCell_other _ _ _ _ (by intro e2; injection e2 with _ e3 _; exact e e3.symm), wd_other _ _ _ _ hi e]; exact h.word k hk
  · rw [List.length_set] at hk
    rw [World.frozen?_setCell]; exact h.free k hk
theorem size_any (g W : Nat) (bs : List Bool) (w : World) (h : SetAt w g W bs) :
    Calls Tryd.prog 11 #[.pointer (some ⟨g, 0, none⟩)] w fun e w' => e = .returned (.int .i64 bs.length) ∧ w = w' := by
  have h0 := h.c0
  go_enter Tryd.func11, Tryd.ntmps11
  go_wp2
  go_ret
  exact ⟨rfl, rfl⟩
theorem in_any (g W : Nat) (bs : List Bool) (i : Int) (w : World) (h : SetAt w g W bs) :
    Calls Tryd.prog 41 #[.pointer (some ⟨g, 0, none⟩), .int .i64 i] w fun e w' => e = .returned (.bool (decide (0 ≤ i ∧ i < bs.length))) ∧ w = w' := by
  have h0 := h.c0
  have h2 := h.c2
  by_cases h1 : 0 ≤ i
  · have e : decide (0 ≤ i ∧ i < bs.length) = decide (i < bs.length) := decide_eq_decide.2 ⟨fun h => h.2, fun h => ⟨h1, h⟩⟩
    rw [e]
    clear e
    go_enter Tryd.func41, Tryd.ntmps41
    go_wp2
    go_ret
    exact ⟨rfl, rfl⟩
  · have e : decide (0 ≤ i ∧ i < bs.length) = false := decide_eq_false (fun h => h1 h.1)
    rw [e]
    clear e
    go_enter Tryd.func41, Tryd.ntmps41
    go_wp2
    go_ret
    exact ⟨rfl, rfl⟩
theorem wq (k : Nat) (h : k ≤ 9223372036854775807) : wrap64 ((k : Int) / 64) = ((k / 64 : Nat) : Int) := by unfold wrap64; omega
theorem wr64 (k : Nat) : wrap64 ((k : Int) % 64) = ((k % 64 : Nat) : Int) := by unfold wrap64; omega
theorem castshr (x r : Nat) : (x : Int) / 2 ^ r = ((x / 2 ^ r : Nat) : Int) := by rw [Int.natCast_ediv, Int.natCast_pow]; rfl
theorem bit1 (x r : Nat) (hx : x < 18446744073709551616) (b : Bool) (h : x / 2 ^ r % 2 = b.toNat) : (bits .and .u64 ((x : Int) / 2 ^ r) 1 == 1) = b := by
  have h1 : x / 2 ^ r < 18446744073709551616 := Nat.lt_of_le_of_lt (Nat.div_le_self _ _) hx
  have q := bits_and_u64_nat (x / 2 ^ r) 1 h1 (by decide)
  rw [castshr, show (1 : Int) = ((1 : Nat) : Int) from rfl, q, Nat.and_one_is_mod, h]
  cases b <;> rfl
theorem pow_lt (k : Nat) : 2 ^ (k % 64) < 18446744073709551616 := Nat.lt_of_lt_of_le (Nat.pow_lt_pow_right (by decide) (Nat.mod_lt k (show 0 < 64 by decide))) (by decide)
theorem wrap_pow (k : Nat) : IntKind.u64.wrap (2 ^ (k % 64)) = ((2 ^ (k % 64) : Nat) : Int) := by
  have := wrapN _ (pow_lt k)
  rw [← this, Int.natCast_pow]; rfl
theorem orbit (x k : Nat) (hx : x < 18446744073709551616) : bits .or .u64 (x : Int) (IntKind.u64.wrap (2 ^ (k % 64))) = ((x ||| 2 ^ (k % 64) : Nat) : Int) := by
  rw [wrap_pow, bits_or_u64_nat x _ hx (pow_lt k)]
theorem notbit (x k : Nat) (hx : x < 18446744073709551616) : bits .andNot .u64 (x : Int) (IntKind.u64.wrap (2 ^ (k % 64))) = ((x &&& (18446744073709551615 - 2 ^ (k % 64)) : Nat) : Int) := by
  rw [wrap_pow, u64_andNot_nat x _ hx (pow_lt k)]
theorem grown_setCell (w : World) (W j : Nat) (v : Value) : w.grownBy ((w.setCell ⟨W, j, none⟩ v).drew) (some W) :=
  ⟨rfl, rfl, rfl, by simp [World.setCell, World.drew], fun k _ hne => by
    rw [heap_drew]; exact heap_setCell_other _ _ _ _ (show k ≠ W from fun e => hne (by rw [e]))⟩
theorem has_any (g W : Nat) (bs : List Bool) (i : Int) (w : World) (h : SetAt w g W bs) :
    Calls Tryd.prog 18 #[.pointer (some ⟨g, 0, none⟩), .int .i64 i] w fun e w' => e = .returned (.bool (decide (0 ≤ i) && bs[i.toNat]?.getD false)) ∧ w = w' := by
  have h1 := h.c1
  have HI := Lib.hid (in_any g W bs i w h)
  by_cases hr : 0 ≤ i ∧ i < bs.length
  · obtain ⟨k, rfl⟩ : ∃ k : Nat, i = (k : Int) := ⟨i.toNat, by omega⟩
    have hk : k < bs.length := by omega
    have hw := h.word (k / 64) (by unfold nw; omega)
    have hsm := h.small
    have hqn : k / 64 < nw bs.length := by unfold nw; omega
    have hq0 : (0 : Int) ≤ (k : Int) / 64 := by omega
    have hqi : (k : Int) / 64 < (nw bs.length : Int) := by omega
    have hbit := Lib.hid (wd_has bs k hk)
    have hlt := wd_lt bs (k / 64)
    generalize wd bs (k / 64) = x at hw hbit hlt
    have hd : decide (0 ≤ (k : Int) ∧ (k : Int) < bs.length) = true := decide_eq_true hr
    rw [hd] at HI
    have e : (decide (0 ≤ (k : Int)) && bs[(k : Int).toNat]?.getD false) = bs[k] := by
      rw [decide_eq_true hr.1, Bool.true_and, Int.toNat_natCast, List.getElem?_eq_getElem hk, Option.getD_some]
    rw [e]
    go_enter Tryd.func18, Tryd.ntmps18
    go_wp2_with (go_at_call 41; refine HI.out.mono ?_; rintro e w' ⟨rfl, rfl⟩)
    go_ret
    exact ⟨by rw [← bit1 x (k % 64) hlt bs[k] hbit.out]; rfl, rfl⟩
  · have hd : decide (0 ≤ i ∧ i < bs.length) = false := decide_eq_false hr
    rw [hd] at HI
    have e : (decide (0 ≤ i) && bs[i.toNat]?.getD false) = false := by
      by_cases h0 : 0 ≤ i
      · rw [List.getElem?_eq_none (by omega)]; simp
      · simp [h0]
    rw [e]
    go_enter Tryd.func18, Tryd.ntmps18
    go_wp2_with (go_at_call 41; refine HI.out.mono ?_; rintro e w' ⟨rfl, rfl⟩)
    go_ret
    exact ⟨rfl, rfl⟩
set_option maxHeartbeats 800000 in
theorem put_in (g W k : Nat) (bs : List Bool) (w : World) (h : SetAt w g W bs) (hk : k < bs.length) :
    Calls Tryd.prog 14 #[.pointer (some ⟨g, 0, none⟩), .int .i64 k] w fun e w' => e = .returned (.bool true) ∧ SetAt w' g W (bs.set k true) ∧ w.grownBy w' (some W) := by
  have h1 := h.c1
  have HI := Lib.hid (in_any g W bs k w h)
  have hd : decide (0 ≤ (k : Int) ∧ (k : Int) < bs.length) = true := decide_eq_true ⟨by omega, by omega⟩
  rw [hd] at HI
  have hsm := h.small
  have hw : w.drew.cell? ⟨W, k / 64, none⟩ = some (.int .u64 (wd bs (k / 64))) := h.word (k / 64) (by unfold nw; omega)
  have hf : w.drew.frozen? ⟨W, k / 64, none⟩ = false := h.free (k / 64) (by unfold nw; omega)
  have h1d : w.drew.cell? ⟨g, 1, none⟩ = some (.slice (some ⟨W, 0, none⟩) (nw bs.length) (nw bs.length)) := h1
  have hqn : k / 64 < nw bs.length := by unfold nw; omega
  have hq0 : (0 : Int) ≤ (k : Int) / 64 := by omega
  have hqi : (k : Int) / 64 < (nw bs.length : Int) := by omega
  have HP := Lib.hid (wd_put bs k hk)
  have HS := Lib.hid (h.put k hk true)
  have hlt := wd_lt bs (k / 64)
  generalize wd (bs.set k true) (k / 64) = y at HP HS
  generalize wd bs (k / 64) = x at hw HP hlt
  clear h
  go_enter Tryd.func14, Tryd.ntmps14
  go_wp2_with (go_at_call 41; refine HI.out.mono ?_; rintro e w' ⟨rfl, rfl⟩)
  go_region
  all_goals
    rw [orbit x k hlt, ← HP.out]
    have hG := grown_setCell w W (k / 64) (.int .u64 y)
    have hS : SetAt ((w.setCell ⟨W, k / 64, none⟩ (.int .u64 y)).drew) g W (bs.set k true) := HS.out.blocks rfl rfl
    generalize (w.setCell ⟨W, k / 64, none⟩ (.int .u64 y)).drew = W2 at hG hS
    go_wp2
    go_ret
    exact ⟨rfl, hS, hG⟩
theorem put_out (g W : Nat) (bs : List Bool) (i : Int) (w : World) (h : SetAt w g W bs) (hi : ¬ (0 ≤ i ∧ i < bs.length)) :
    Calls Tryd.prog 14 #[.pointer (some ⟨g, 0, none⟩), .int .i64 i] w fun e w' => e = .returned (.bool false) ∧ w = w' := by
  have HI := Lib.hid (in_any g W bs i w h)
  have hd : decide (0 ≤ i ∧ i < bs.length) = false := decide_eq_false hi
  rw [hd] at HI
  clear hd hi
  go_enter Tryd.func14, Tryd.ntmps14
  go_wp2_with (go_at_call 41; refine HI.out.mono ?_; rintro e w' ⟨rfl, rfl⟩)
  go_ret
  exact ⟨rfl, rfl⟩
set_option maxHeartbeats 800000 in
theorem cut_in (g W k : Nat) (bs : List Bool) (w : World) (h : SetAt w g W bs) (hk : k < bs.length) :
    Calls Tryd.prog 28 #[.pointer (some ⟨g, 0, none⟩), .int .i64 k] w fun e w' => e = .returned (.bool true) ∧ SetAt w' g W (bs.set k false) ∧ w.grownBy w' (some W) := by
  have h1 := h.c1
  have HI := Lib.hid (in_any g W bs k w h)
  have hd : decide (0 ≤ (k : Int) ∧ (k : Int) < bs.length) = true := decide_eq_true ⟨by omega, by omega⟩
  rw [hd] at HI
  have hsm := h.small
  have hw : w.drew.cell? ⟨W, k / 64, none⟩ = some (.int .u64 (wd bs (k / 64))) := h.word (k / 64) (by unfold nw; omega)
  have hf : w.drew.frozen? ⟨W, k / 64, none⟩ = false := h.free (k / 64) (by unfold nw; omega)
  have h1d : w.drew.cell? ⟨g, 1, none⟩ = some (.slice (some ⟨W, 0, none⟩) (nw bs.length) (nw bs.length)) := h1
  have hqn : k / 64 < nw bs.length := by unfold nw; omega
  have hq0 : (0 : Int) ≤ (k : Int) / 64 := by omega
  have hqi : (k : Int) / 64 < (nw bs.length : Int) := by omega
  have HP := Lib.hid (wd_cut bs k hk)
  have HS := Lib.hid (h.put k hk false)
  have hlt := wd_lt bs (k / 64)
  generalize wd (bs.set k false) (k / 64) = y at HP HS
  generalize wd bs (k / 64) = x at hw HP hlt
  clear h
  go_enter Tryd.func28, Tryd.ntmps28
  go_wp2_with (go_at_call 41; refine HI.out.mono ?_; rintro e w' ⟨rfl, rfl⟩)
  go_region
  all_goals
    rw [notbit x k hlt, ← HP.out]
    have hG := grown_setCell w W (k / 64) (.int .u64 y)
    have hS : SetAt ((w.setCell ⟨W, k / 64, none⟩ (.int .u64 y)).drew) g W (bs.set k false) := HS.out.blocks rfl rfl
    generalize (w.setCell ⟨W, k / 64, none⟩ (.int .u64 y)).drew = W2 at hG hS
    go_wp2
    go_ret
    exact ⟨rfl, hS, hG⟩
theorem cut_out (g W : Nat) (bs : List Bool) (i : Int) (w : World) (h : SetAt w g W bs) (hi : ¬ (0 ≤ i ∧ i < bs.length)) :
    Calls Tryd.prog 28 #[.pointer (some ⟨g, 0, none⟩), .int .i64 i] w fun e w' => e = .returned (.bool false) ∧ w = w' := by
  have HI := Lib.hid (in_any g W bs i w h)
  have hd : decide (0 ≤ i ∧ i < bs.length) = false := decide_eq_false hi
  rw [hd] at HI
  clear hd hi
  go_enter Tryd.func28, Tryd.ntmps28
  go_wp2_with (go_at_call 41; refine HI.out.mono ?_; rintro e w' ⟨rfl, rfl⟩)
  go_ret
  exact ⟨rfl, rfl⟩
end Go.Proofs.YtopgikjmeebgbaaDoor
