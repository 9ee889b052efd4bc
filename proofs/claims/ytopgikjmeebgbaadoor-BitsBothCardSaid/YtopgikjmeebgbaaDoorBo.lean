/- What two sets have. -/
import Derived.Test.YtopgikjmeebgbaaDoorBm
import Derived.Deep.RegionHeld3
namespace Go.Proofs.YtopgikjmeebgbaaDoor
open Go.RowKit
set_option linter.unusedVariables false
set_option linter.unusedSimpArgs false
/-- A set in the making: its words are whatever f says. -/
structure OutAt (w : World) (g W m : Nat) (f : Nat → Nat) : Prop where
  box : w.heap[g]? = some (.cells #[.int .i64 m, .slice (some ⟨W, 0, none⟩) (nw m) (nw m), .bool true] 41 (0, 0))
  word : ∀ k, k < nw m → w.cell? ⟨W, k, none⟩ = some (.int .u64 (f k))
  free : ∀ k, k < nw m → w.frozen? ⟨W, k, none⟩ = false
  lt : W < g
  small : m ≤ 65536
theorem OutAt.of_set {w : World} {g W m : Nat} {f : Nat → Nat} (h : SetAt w g W (List.replicate m false)) (hf : ∀ k, f k = 0) : OutAt w g W m f := by
  have h1 := h.box
  rw [List.length_replicate] at h1
  refine ⟨h1, fun k hk => ?_, fun k hk => h.free k (by rw [List.length_replicate]; exact hk), h.lt, by have := h.small; rw [List.length_replicate] at this; exact this⟩
  have := h.word k (by rw [List.length_replicate]; exact hk)
  rw [wd_false] at this
  rw [hf]; exact this
theorem OutAt.toSet {w : World} {g W m : Nat} {f : Nat → Nat} {zs : List Bool} (h : OutAt w g W m f) (hl : zs.length = m) (hf : ∀ k, k < nw m → f k = wd zs k) : SetAt w g W zs := by
  subst hl
  exact ⟨h.box, fun k hk => by rw [← hf k hk]; exact h.word k hk, h.free, h.lt, h.small⟩
theorem OutAt.glt {w : World} {g W m : Nat} {f : Nat → Nat} (h : OutAt w g W m f) : g < w.heap.size := (Array.getElem?_eq_some_iff.1 h.box).1
theorem OutAt.blocks {w w' : World} {g W m : Nat} {f : Nat → Nat} (h : OutAt w g W m f) (hg : w'.heap[g]? = w.heap[g]?) (hW : w'.heap[W]? = w.heap[W]?) : OutAt w' g W m f :=
  ⟨by rw [hg]; exact h.box, fun k hk => by rw [World.cell?_of_block hW]; exact h.word k hk, fun k hk => by rw [World.frozen?_of_block hW]; exact h.free k hk, h.lt, h.small⟩
theorem OutAt.c0 {w : World} {g W m : Nat} {f : Nat → Nat} (h : OutAt w g W m f) : w.cell? ⟨g, 0, none⟩ = some (.int .i64 m) := by simp [World.cell?, h.box]
theorem OutAt.c1 {w : World} {g W m : Nat} {f : Nat → Nat} (h : OutAt w g W m f) : w.cell? ⟨g, 1, none⟩ = some (.slice (some ⟨W, 0, none⟩) (nw m) (nw m)) := by simp [World.cell?, h.box]
theorem OutAt.put {w : World} {g W m : Nat} {f f' : Nat → Nat} (h : OutAt w g W m f) (j v : Nat) (hj : j < nw m) (hv : f' j = v) (ho : ∀ k, k ≠ j → f' k = f k) : OutAt (w.setCell ⟨W, j, none⟩ (.int .u64 v)) g W m f' := by
  have hl := h.lt
  refine ⟨?_, fun k hk => ?_, fun k hk => ?_, hl, h.small⟩
  · rw [heap_setCell_other _ _ _ _ (show g ≠ W by omega)]; exact h.box
  · by_cases e : k = j
    · subst e
      rw [hv]
      exact World.cell?_setCell_same _ _ _ (h.word _ hk)
    · rw [World.cell?_setCell_other _ _ _ _ (by intro e2; injection e2 with _ e3 _; exact e e3.symm), ho k e]; exact h.word k hk
  · rw [World.frozen?_setCell]; exact h.free k hk
theorem cell_off {w : World} {a o b j : Nat} {u v : Value} (h : w.cell? ⟨a, o, none⟩ = some v) (hne : a ≠ b) : (w.setCell ⟨b, j, none⟩ u).cell? ⟨a, o, none⟩ = some v := by
  rw [World.cell?_of_block (heap_setCell_other _ _ _ _ (show a ≠ b from hne))]; exact h
theorem zip_getD (fb : Bool → Bool → Bool) (hff : fb false false = false) (xs bs : List Bool) (i : Nat) (hi : i < (List.zipWith fb xs bs).length) : (List.zipWith fb xs bs)[i]?.getD false = fb (xs[i]?.getD false) (bs[i]?.getD false) := by
  have h := hi
  rw [List.length_zipWith] at h
  rw [List.getElem?_eq_getElem hi, List.getElem?_eq_getElem (show i < xs.length by omega), List.getElem?_eq_getElem (show i < bs.length by omega)]
  simp
section
variable (F : Nat → Nat → Nat) (fb : Bool → Bool → Bool) (hff : fb false false = false) (hF : ∀ x y t, (F x y).testBit t = fb (x.testBit t) (y.testBit t))
include hff hF
theorem zip_word (xs bs : List Bool) (k : Nat) (hk : 64 * (k + 1) ≤ (List.zipWith fb xs bs).length) : F (wd xs k) (wd bs k) = wd (List.zipWith fb xs bs) k := by
  refine Nat.eq_of_testBit_eq fun t => ?_
  rw [hF, wd_bit, wd_bit, wd_bit]
  by_cases ht : t < 64
  · rw [if_pos ht, if_pos ht, if_pos ht, zip_getD fb hff xs bs _ (by omega)]
  · rw [if_neg ht, if_neg ht, if_neg ht, hff]
theorem zip_last (xs bs : List Bool) (k r : Nat) (hr : r ≤ 64) (hk : 64 * k + r = (List.zipWith fb xs bs).length) : F (wd xs k) (wd bs k) &&& (2 ^ r - 1) = wd (List.zipWith fb xs bs) k := by
  refine Nat.eq_of_testBit_eq fun t => ?_
  rw [Nat.testBit_and, hF, wd_bit, wd_bit, wd_bit, Nat.testBit_two_pow_sub_one]
  by_cases ht : t < r
  · have h64 : t < 64 := by omega
    rw [if_pos h64, if_pos h64, if_pos h64, zip_getD fb hff xs bs _ (by omega)]
    simp [ht]
  · rw [decide_eq_false ht, Bool.and_false]
    split
    · rw [List.getElem?_eq_none (by omega)]; rfl
    · rfl
end
/-- The words so far: of the first j those of both. -/
def sofar (F : Nat → Nat → Nat) (xs bs : List Bool) (j : Nat) : Nat → Nat := fun k => if k < j then F (wd xs k) (wd bs k) else 0
set_option maxHeartbeats 3200000 in
theorem both_any (Fi : FuncId) (F : Nat → Nat → Nat) (fb : Bool → Bool → Bool) (hff : fb false false = false) (hF : ∀ x y t, (F x y).testBit t = fb (x.testBit t) (y.testBit t)) (hFl : ∀ x y, x < 18446744073709551616 → y < 18446744073709551616 → F x y < 18446744073709551616)
    (he : ∀ args w, (callFunc Fi args).run Tryd.prog w = .ok (.enter Fi args) w) (hcl : ∀ (x y : Nat) w, x < 18446744073709551616 → y < 18446744073709551616 → Calls Tryd.prog Fi #[.int .u64 x, .int .u64 y] w fun e w' => e = .returned (.int .u64 (F x y)) ∧ w = w')
    (g W gb Wb : Nat) (xs bs : List Bool) (w : World) (ha : SetAt w g W xs) (hb : SetAt w gb Wb bs) :
    Calls Tryd.prog 47 #[.pointer (some ⟨g, 0, none⟩), .pointer (some ⟨gb, 0, none⟩), .func (.func Fi) #[] #[]] w fun e w' => ∃ go Wo, e = .returned (.pointer (some ⟨go, 0, none⟩)) ∧ SetAt w' go Wo (List.zipWith fb xs bs) ∧ w.heap.size ≤ Wo ∧ Below w.heap.size w w' := by
  have HSa := Lib.hid (size_any g W xs w ha)
  have HSb := Lib.hid (size_any gb Wb bs w hb)
  have HCl := Lib.hid hcl
  have hasm := ha.small
  have hbsm := hb.small
  have hzl : (List.zipWith fb xs bs).length = min xs.length bs.length := List.length_zipWith
  obtain ⟨zs, hzs⟩ : ∃ zs, zs = List.zipWith fb xs bs := ⟨_, rfl⟩
  rw [← hzs] at hzl ⊢
  obtain ⟨m, hm⟩ : ∃ m, m = min xs.length bs.length := ⟨_, rfl⟩
  rw [← hm] at hzl
  have HZW : Hid (∀ k, 64 * (k + 1) ≤ m → F (wd xs k) (wd bs k) = wd zs k) := fun k hk => by rw [hzs]; exact zip_word F fb hff hF xs bs k (by rw [← hzs, hzl]; exact hk)
  have HZL : Hid (∀ k r, r ≤ 64 → 64 * k + r = m → F (wd xs k) (wd bs k) &&& (2 ^ r - 1) = wd zs k) := fun k r hr hk => by rw [hzs]; exact zip_last F fb hff hF xs bs k r hr (by rw [← hzs, hzl]; exact hk)
  have HZl := Lib.hid hzl
  have HNw : Hid (∀ n : Int, n = (m : Int) → ∀ w, Calls Tryd.prog 10 #[.int .i64 n] w fun e w' => ∃ g W, e = .returned (.pointer (some ⟨g, 0, none⟩)) ∧ SetAt w' g W (List.replicate m false) ∧ w.heap.size ≤ W ∧ Below w.heap.size w w') := by
    show ∀ n : Int, _
    intro n hn w
    have := new_any n w
    rw [show clip n = m by unfold clip; omega] at this
    exact this
  have HA := Lib.hid (fun (w' : World) (h : Below w.heap.size w w') => ha.below h)
  have HB := Lib.hid (fun (w' : World) (h : Below w.heap.size w w') => hb.below h)
  have hgs := ha.glt
  have hgbs := hb.glt
  have hWl := ha.lt
  have hWbl := hb.lt
  have hFl2 := Lib.hid hFl
  clear hcl hzl hzs ha hb hFl hF
  go_enter Tryd.func47, Tryd.ntmps47
  by_cases hle : xs.length ≤ bs.length
  · have hma : (xs.length : Int) = (m : Int) := by omega
    have hle2 : (xs.length : Int) ≤ (bs.length : Int) := by omega
    go_upto_region 2 with (first
      | (go_at_call 11; refine HSa.out.mono ?_; rintro e w' ⟨rfl, rfl⟩; clear HSa)
      | (go_at_call 11; refine HSb.out.mono ?_; rintro e w' ⟨rfl, rfl⟩; clear HSb)
      | (go_at_call 10; refine (HNw.out _ (by omega) _).mono ?_; rintro e w1 ⟨go, Wo, rfl, hO, hWo, hb1⟩))
    all_goals
      have hO1 := OutAt.of_set (f := sofar F xs bs 0) hO (fun k => if_neg (Nat.not_lt_zero k))
      have hm64 := hO1.small
      have hnm : nw m ≤ 1024 := by unfold nw; omega
      have hmx : m ≤ xs.length := by omega
      have hmy : m ≤ bs.length := by omega
      have hg1 := hO1.glt
      clear hO HNw hle2 hm
      try clear hma
      try clear hmb
      have h1 := hO1.c1
      go_wp2_with fail
      go_loopg [21] (nw m) (fun r i wr => ∃ j : Nat, j + r = nw m ∧ i = .int .i64 j ∧ OutAt wr go Wo m (sofar F xs bs j) ∧ Below w.heap.size w wr)
      case atStart => exact ⟨0, by omega, rfl, hO1, hb1⟩
      case round =>
        clear h1 hO1 hb1
        obtain ⟨j, hj, rfl, hO, hbw⟩ := hrel
        have hAw := HA.out wr hbw
        have hBw := HB.out wr hbw
        have hOl := hO.lt
        by_cases hjn : j < nw m
        · have hja : j < nw xs.length := by unfold nw at hjn ⊢; omega
          have hjb : j < nw bs.length := by unfold nw at hjn ⊢; omega
          have k1 : wr.drew.cell? ⟨go, 1, none⟩ = some (.slice (some ⟨Wo, 0, none⟩) (nw m) (nw m)) := hO.c1
          have k2 : wr.drew.cell? ⟨g, 1, none⟩ = some (.slice (some ⟨W, 0, none⟩) (nw xs.length) (nw xs.length)) := hAw.c1
          have k3 : wr.drew.cell? ⟨gb, 1, none⟩ = some (.slice (some ⟨Wb, 0, none⟩) (nw bs.length) (nw bs.length)) := hBw.c1
          have k4 : wr.drew.cell? ⟨W, j, none⟩ = some (.int .u64 (wd xs j)) := hAw.word j hja
          have k5 : wr.drew.cell? ⟨Wb, j, none⟩ = some (.int .u64 (wd bs j)) := hBw.word j hjb
          have k6 : wr.drew.cell? ⟨Wo, j, none⟩ = some (.int .u64 (sofar F xs bs j j)) := hO.word j hjn
          have kf : wr.drew.frozen? ⟨Wo, j, none⟩ = false := hO.free j hjn
          have HP : Hid (OutAt ((wr.setCell ⟨Wo, j, none⟩ (.int .u64 (F (wd xs j) (wd bs j)))).drew) go Wo m (sofar F xs bs (j + 1))) := by
            have hP := OutAt.put (f' := sofar F xs bs (j + 1)) hO j (F (wd xs j) (wd bs j)) hjn (if_pos (Nat.lt_succ_self j)) (fun k hk => by
              unfold sofar
              by_cases h : k < j
              · rw [if_pos h, if_pos (by omega)]
              · rw [if_neg h, if_neg (by omega)])
            exact hP.blocks rfl rfl
          have hx := wd_lt xs j
          have hy := wd_lt bs j
          have HC := Lib.hid (fun w => HCl.out (wd xs j) (wd bs j) w hx hy)
          generalize wd xs j = x at k4 hx HC HP
          generalize wd bs j = y at k5 hy HC HP
          generalize sofar F xs bs j j = z6 at k6
          have hbd := hbw.drew
          have hj1 : (j : Int) < (nw m : Int) := by omega
          have hj2 : (j : Int) < (nw xs.length : Int) := by omega
          have hj3 : (j : Int) < (nw bs.length : Int) := by omega
          have n1 : go ≠ Wo := by omega
          have n2 : g ≠ Wo := by omega
          have n3 : gb ≠ Wo := by omega
          have n4 : W ≠ Wo := by omega
          have n5 : Wb ≠ Wo := by omega
          clear hO hAw hBw
          go_wp2_with fail
          go_region_held3 (fun w' => w'.cell? ⟨go, 1, none⟩ = some (.slice (some ⟨Wo, 0, none⟩) (nw m) (nw m)) ∧ w'.cell? ⟨g, 1, none⟩ = some (.slice (some ⟨W, 0, none⟩) (nw xs.length) (nw xs.length)) ∧ w'.cell? ⟨gb, 1, none⟩ = some (.slice (some ⟨Wb, 0, none⟩) (nw bs.length) (nw bs.length)) ∧ w'.cell? ⟨W, j, none⟩ = some (.int .u64 x) ∧ w'.cell? ⟨Wb, j, none⟩ = some (.int .u64 y)) (first | exact ⟨k1, k2, k3, k4, k5⟩ | exact ⟨cell_off k1 n1, cell_off k2 n2, cell_off k3 n3, cell_off k4 n4, cell_off k5 n5⟩) (first
            | (refine (HC.out _).mono ?_; rintro e w' ⟨rfl, rfl⟩))
          all_goals
            have hO2 := HP.out
            have hb2 : Below w.heap.size w ((wr.setCell ⟨Wo, j, none⟩ (.int .u64 (F x y))).drew) := (hbw.setCell (p := ⟨Wo, j, none⟩) hWo _).drew
            generalize (wr.setCell ⟨Wo, j, none⟩ (.int .u64 (F x y))).drew = w5 at hO2 hb2 ⊢
            clear k1 k2 k3 k4 k5 k6 kf
            go_wp2
            go_roundg (nw m - (j + 1))
            case measure => omega
            case rel => exact ⟨j + 1, by omega, by go_num, hO2, hb2⟩
        · obtain rfl : j = nw m := by omega
          have h0 := hO.c0
          obtain ⟨q, r, hqr, hr64⟩ : ∃ q r, m = 64 * q + r ∧ r < 64 := ⟨m / 64, m % 64, by omega, Nat.mod_lt _ (by decide)⟩
          have hr : (m : Int) % 64 = (r : Int) := by omega
          by_cases hr0 : r = 0
          · subst hr0
            have hS : Hid (SetAt wr go Wo zs) := hO.toSet HZl.out (fun k hk => by rw [sofar, if_pos hk]; exact HZW.out k (by unfold nw at hk; omega))
            clear hO hAw hBw
            go_wp2
            go_ret
            first | exact ⟨_, _, rfl, hS.out, hWo, hbw⟩ | exact ⟨_, rfl, _, hS.out, hWo, hbw⟩
          · have hnq : nw m = q + 1 := by unfold nw; omega
            have hr1 : (0 : Int) < (r : Int) := by omega
            have hx := hFl2.out (wd xs q) (wd bs q) (wd_lt _ _) (wd_lt _ _)
            have k1 : wr.drew.cell? ⟨go, 1, none⟩ = some (.slice (some ⟨Wo, 0, none⟩) (nw m) (nw m)) := hO.c1
            have k2 : wr.drew.cell? ⟨Wo, q, none⟩ = some (.int .u64 (F (wd xs q) (wd bs q))) := by
              have := hO.word q (by omega)
              rw [sofar, if_pos (by omega)] at this
              exact this
            have kf : wr.drew.frozen? ⟨Wo, q, none⟩ = false := hO.free q (by omega)
            obtain ⟨mm, hmm, hmx2⟩ := mask_eq r hr64 (F (wd xs q) (wd bs q)) hx
            have HS : Hid (SetAt ((wr.setCell ⟨Wo, q, none⟩ (.int .u64 ((F (wd xs q) (wd bs q) &&& (2 ^ r - 1) : Nat) : Int))).drew) go Wo zs) := by
              have hP := (OutAt.put (f' := fun k => if k = q then F (wd xs q) (wd bs q) &&& (2 ^ r - 1) else sofar F xs bs (nw m) k) hO q (F (wd xs q) (wd bs q) &&& (2 ^ r - 1)) (by omega) (if_pos rfl) (fun k hk => if_neg hk))
              refine (hP.toSet HZl.out (fun k hk => ?_)).blocks rfl rfl
              by_cases e : k = q
              · subst e
                rw [if_pos rfl]; exact HZL.out k r (by omega) (by omega)
              · rw [if_neg e, sofar, if_pos hk]; exact HZW.out k (by omega)
            clear hO hAw hBw
            rw [hnq] at k1
            clear hqr hr64
            have hq1 : ((q + 1 : Nat) : Int) - 1 = (q : Int) := by omega
            generalize F (wd xs q) (wd bs q) &&& (2 ^ r - 1) = v at HS hmx2
            generalize F (wd xs q) (wd bs q) = x at k2 hx hmx2
            have hq2 : (q : Int) < (q : Int) + 1 := by omega
            have hq3 : q < q + 1 := by omega
            go_wp2_with fail
            go_region
            all_goals
              try rw [hmm, hmx2]
              have hb2 : Below w.heap.size w ((wr.setCell ⟨Wo, q, none⟩ (.int .u64 (v : Int))).drew) := (hbw.setCell (p := ⟨Wo, q, none⟩) hWo _).drew
              have hS2 := HS.out
              generalize (wr.setCell ⟨Wo, q, none⟩ (.int .u64 (v : Int))).drew = w5 at hS2 hb2 ⊢
              clear k1 k2 kf
              go_wp2
              go_ret
              first | exact ⟨_, _, rfl, hS2, hWo, hb2⟩ | exact ⟨_, rfl, _, hS2, hWo, hb2⟩
  · have hmb : (bs.length : Int) = (m : Int) := by omega
    have hle2 : (bs.length : Int) ≤ (xs.length : Int) := by omega
    go_upto_region 2 with (first
      | (go_at_call 11; refine HSa.out.mono ?_; rintro e w' ⟨rfl, rfl⟩; clear HSa)
      | (go_at_call 11; refine HSb.out.mono ?_; rintro e w' ⟨rfl, rfl⟩; clear HSb)
      | (go_at_call 10; refine (HNw.out _ (by omega) _).mono ?_; rintro e w1 ⟨go, Wo, rfl, hO, hWo, hb1⟩))
    all_goals
      have hO1 := OutAt.of_set (f := sofar F xs bs 0) hO (fun k => if_neg (Nat.not_lt_zero k))
      have hm64 := hO1.small
      have hnm : nw m ≤ 1024 := by unfold nw; omega
      have hmx : m ≤ xs.length := by omega
      have hmy : m ≤ bs.length := by omega
      have hg1 := hO1.glt
      clear hO HNw hle2 hm
      try clear hma
      try clear hmb
      have h1 := hO1.c1
      go_wp2_with fail
      go_loopg [21] (nw m) (fun r i wr => ∃ j : Nat, j + r = nw m ∧ i = .int .i64 j ∧ OutAt wr go Wo m (sofar F xs bs j) ∧ Below w.heap.size w wr)
      case atStart => exact ⟨0, by omega, rfl, hO1, hb1⟩
      case round =>
        clear h1 hO1 hb1
        obtain ⟨j, hj, rfl, hO, hbw⟩ := hrel
        have hAw := HA.out wr hbw
        have hBw := HB.out wr hbw
        have hOl := hO.lt
        by_cases hjn : j < nw m
        · have hja : j < nw xs.length := by unfold nw at hjn ⊢; omega
          have hjb : j < nw bs.length := by unfold nw at hjn ⊢; omega
          have k1 : wr.drew.cell? ⟨go, 1, none⟩ = some (.slice (some ⟨Wo, 0, none⟩) (nw m) (nw m)) := hO.c1
          have k2 : wr.drew.cell? ⟨g, 1, none⟩ = some (.slice (some ⟨W, 0, none⟩) (nw xs.length) (nw xs.length)) := hAw.c1
          have k3 : wr.drew.cell? ⟨gb, 1, none⟩ = some (.slice (some ⟨Wb, 0, none⟩) (nw bs.length) (nw bs.length)) := hBw.c1
          have k4 : wr.drew.cell? ⟨W, j, none⟩ = some (.int .u64 (wd xs j)) := hAw.word j hja
          have k5 : wr.drew.cell? ⟨Wb, j, none⟩ = some (.int .u64 (wd bs j)) := hBw.word j hjb
          have k6 : wr.drew.cell? ⟨Wo, j, none⟩ = some (.int .u64 (sofar F xs bs j j)) := hO.word j hjn
          have kf : wr.drew.frozen? ⟨Wo, j, none⟩ = false := hO.free j hjn
          have HP : Hid (OutAt ((wr.setCell ⟨Wo, j, none⟩ (.int .u64 (F (wd xs j) (wd bs j)))).drew) go Wo m (sofar F xs bs (j + 1))) := by
            have hP := OutAt.put (f' := sofar F xs bs (j + 1)) hO j (F (wd xs j) (wd bs j)) hjn (if_pos (Nat.lt_succ_self j)) (fun k hk => by
              unfold sofar
              by_cases h : k < j
              · rw [if_pos h, if_pos (by omega)]
              · rw [if_neg h, if_neg (by omega)])
            exact hP.blocks rfl rfl
          have hx := wd_lt xs j
          have hy := wd_lt bs j
          have HC := Lib.hid (fun w => HCl.out (wd xs j) (wd bs j) w hx hy)
          generalize wd xs j = x at k4 hx HC HP
          generalize wd bs j = y at k5 hy HC HP
          generalize sofar F xs bs j j = z6 at k6
          have hbd := hbw.drew
          have hj1 : (j : Int) < (nw m : Int) := by omega
          have hj2 : (j : Int) < (nw xs.length : Int) := by omega
          have hj3 : (j : Int) < (nw bs.length : Int) := by omega
          have n1 : go ≠ Wo := by omega
          have n2 : g ≠ Wo := by omega
          have n3 : gb ≠ Wo := by omega
          have n4 : W ≠ Wo := by omega
          have n5 : Wb ≠ Wo := by omega
          clear hO hAw hBw
          go_wp2_with fail
          go_region_held3 (fun w' => w'.cell? ⟨go, 1, none⟩ = some (.slice (some ⟨Wo, 0, none⟩) (nw m) (nw m)) ∧ w'.cell? ⟨g, 1, none⟩ = some (.slice (some ⟨W, 0, none⟩) (nw xs.length) (nw xs.length)) ∧ w'.cell? ⟨gb, 1, none⟩ = some (.slice (some ⟨Wb, 0, none⟩) (nw bs.length) (nw bs.length)) ∧ w'.cell? ⟨W, j, none⟩ = some (.int .u64 x) ∧ w'.cell? ⟨Wb, j, none⟩ = some (.int .u64 y)) (first | exact ⟨k1, k2, k3, k4, k5⟩ | exact ⟨cell_off k1 n1, cell_off k2 n2, cell_off k3 n3, cell_off k4 n4, cell_off k5 n5⟩) (first
            | (refine (HC.out _).mono ?_; rintro e w' ⟨rfl, rfl⟩))
          all_goals
            have hO2 := HP.out
            have hb2 : Below w.heap.size w ((wr.setCell ⟨Wo, j, none⟩ (.int .u64 (F x y))).drew) := (hbw.setCell (p := ⟨Wo, j, none⟩) hWo _).drew
            generalize (wr.setCell ⟨Wo, j, none⟩ (.int .u64 (F x y))).drew = w5 at hO2 hb2 ⊢
            clear k1 k2 k3 k4 k5 k6 kf
            go_wp2
            go_roundg (nw m - (j + 1))
            case measure => omega
            case rel => exact ⟨j + 1, by omega, by go_num, hO2, hb2⟩
        · obtain rfl : j = nw m := by omega
          have h0 := hO.c0
          obtain ⟨q, r, hqr, hr64⟩ : ∃ q r, m = 64 * q + r ∧ r < 64 := ⟨m / 64, m % 64, by omega, Nat.mod_lt _ (by decide)⟩
          have hr : (m : Int) % 64 = (r : Int) := by omega
          by_cases hr0 : r = 0
          · subst hr0
            have hS : Hid (SetAt wr go Wo zs) := hO.toSet HZl.out (fun k hk => by rw [sofar, if_pos hk]; exact HZW.out k (by unfold nw at hk; omega))
            clear hO hAw hBw
            go_wp2
            go_ret
            first | exact ⟨_, _, rfl, hS.out, hWo, hbw⟩ | exact ⟨_, rfl, _, hS.out, hWo, hbw⟩
          · have hnq : nw m = q + 1 := by unfold nw; omega
            have hr1 : (0 : Int) < (r : Int) := by omega
            have hx := hFl2.out (wd xs q) (wd bs q) (wd_lt _ _) (wd_lt _ _)
            have k1 : wr.drew.cell? ⟨go, 1, none⟩ = some (.slice (some ⟨Wo, 0, none⟩) (nw m) (nw m)) := hO.c1
            have k2 : wr.drew.cell? ⟨Wo, q, none⟩ = some (.int .u64 (F (wd xs q) (wd bs q))) := by
              have := hO.word q (by omega)
              rw [sofar, if_pos (by omega)] at this
              exact this
            have kf : wr.drew.frozen? ⟨Wo, q, none⟩ = false := hO.free q (by omega)
            obtain ⟨mm, hmm, hmx2⟩ := mask_eq r hr64 (F (wd xs q) (wd bs q)) hx
            have HS : Hid (SetAt ((wr.setCell ⟨Wo, q, none⟩ (.int .u64 ((F (wd xs q) (wd bs q) &&& (2 ^ r - 1) : Nat) : Int))).drew) go Wo zs) := by
              have hP := (OutAt.put (f' := fun k => if k = q then F (wd xs q) (wd bs q) &&& (2 ^ r - 1) else sofar F xs bs (nw m) k) hO q (F (wd xs q) (wd bs q) &&& (2 ^ r - 1)) (by omega) (if_pos rfl) (fun k hk => if_neg hk))
              refine (hP.toSet HZl.out (fun k hk => ?_)).blocks rfl rfl
              by_cases e : k = q
              · subst e
                rw [if_pos rfl]; exact HZL.out k r (by omega) (by omega)
              · rw [if_neg e, sofar, if_pos hk]; exact HZW.out k (by omega)
            clear hO hAw hBw
            rw [hnq] at k1
            clear hqr hr64
            have hq1 : ((q + 1 : Nat) : Int) - 1 = (q : Int) := by omega
            generalize F (wd xs q) (wd bs q) &&& (2 ^ r - 1) = v at HS hmx2
            generalize F (wd xs q) (wd bs q) = x at k2 hx hmx2
            have hq2 : (q : Int) < (q : Int) + 1 := by omega
            have hq3 : q < q + 1 := by omega
            go_wp2_with fail
            go_region
            all_goals
              try rw [hmm, hmx2]
              have hb2 : Below w.heap.size w ((wr.setCell ⟨Wo, q, none⟩ (.int .u64 (v : Int))).drew) := (hbw.setCell (p := ⟨Wo, q, none⟩) hWo _).drew
              have hS2 := HS.out
              generalize (wr.setCell ⟨Wo, q, none⟩ (.int .u64 (v : Int))).drew = w5 at hS2 hb2 ⊢
              clear k1 k2 kf
              go_wp2
              go_ret
              first | exact ⟨_, _, rfl, hS2, hWo, hb2⟩ | exact ⟨_, rfl, _, hS2, hWo, hb2⟩
end Go.Proofs.YtopgikjmeebgbaaDoor
