/- Sets read of any bytes. -/
import Derived.Test.YtopgikjmeebgbaaDoorBu
import Derived.Test.YtopgikjmeebgbaaDoorCov
import Derived.Deep.RegionLaw
namespace Go.Proofs.YtopgikjmeebgbaaDoor
open Go.RowKit
set_option linter.unusedVariables false
set_option linter.unusedSimpArgs false
/-- The bits of a list of numbers. -/
def bitsOf (n : Nat) (l : List Int) : List Bool := (List.range n).map fun i : Nat => decide ((i : Int) ∈ l)
theorem bitsOf_length (n : Nat) (l : List Int) : (bitsOf n l).length = n := by simp [bitsOf]
/-- The bits so far. -/
def fitsL (n : Nat) (l : List Int) (j : Nat) (cs : List Bool) : Prop := cs.length = n ∧ ∀ i (h : i < cs.length), cs[i] = decide ((i : Int) ∈ l.take j)
theorem fitsL_zero (n : Nat) (l : List Int) : fitsL n l 0 (List.replicate n false) := by
  refine ⟨List.length_replicate, fun i h => ?_⟩
  rw [List.getElem_replicate, List.take_zero]; simp
theorem fitsL_next (n : Nat) (l : List Int) (j : Nat) (cs : List Bool) (h : fitsL n l j cs) (hj : j < l.length) (k : Nat) (hk : l[j] = (k : Int)) : fitsL n l (j + 1) (cs.set k true) := by
  refine ⟨by rw [List.length_set]; exact h.1, fun i hi => ?_⟩
  rw [List.length_set] at hi
  rw [List.take_succ_eq_append_getElem hj, hk]
  by_cases e : k = i
  · subst e
    rw [List.getElem_set_self]; simp
  · rw [List.getElem_set_ne e, h.2 i hi]
    refine decide_eq_decide.2 ?_
    rw [List.mem_append, List.mem_singleton]
    constructor
    · exact .inl
    · rintro (h | h)
      · exact h
      · omega
theorem fitsL_end (n : Nat) (l : List Int) (cs : List Bool) (h : fitsL n l l.length cs) : cs = bitsOf n l := by
  refine List.ext_getElem (by rw [h.1, bitsOf_length]) fun i h1 h2 => ?_
  rw [h.2 i h1, List.take_length]
  simp [bitsOf]
set_option maxHeartbeats 3200000 in
theorem bread_gen (g n er : Nat) (l : List Int) (P0 P1 : World → Prop) (w : World) (hgw : g < w.heap.size)
    (HN : Calls Tryd.prog 53 #[.pointer (some ⟨g, 0, none⟩), .int .i64 65536] w fun e w1 => e = .returned (.int .i64 n) ∧ P0 w1 ∧ w.grownBy w1 (some g))
    (HR : ∀ w1, P0 w1 → Calls Tryd.prog 54 #[.pointer (some ⟨g, 0, none⟩), .int .i64 n, .int .i64 ((n : Int) - 1)] w1 fun e w2 => ∃ v, e = .returned v ∧ OI w2 w1.heap.size v l ∧ P1 w2 ∧ w1.grownBy w2 (some g))
    (HE : ∀ w1, P1 w1 → Calls Tryd.prog 39 #[.pointer (some ⟨g, 0, none⟩)] w1 fun e w' => e = .returned (.int .i64 er) ∧ w1 = w')
    (hP0 : ∀ w w', P0 w → Below w.heap.size w w' → P0 w')
    (hP1 : ∀ w w' row, P1 w → w.grownBy w' row → (∀ k, row = some k → g < k) → P1 w')
    (hl : ∀ z ∈ l, 0 ≤ z ∧ z ≤ (n : Int) - 1) (hn : n ≤ 65536) (hll : l.length ≤ n) (her : er < 10) :
    Calls Tryd.prog 33 #[.pointer (some ⟨g, 0, none⟩)] w fun e w' => ∃ gs Ws, e = .returned (.pointer (some ⟨gs, 0, none⟩)) ∧ SetAt w' gs Ws (if er = 0 then bitsOf n l else []) ∧ w.heap.size ≤ Ws ∧ P1 w' ∧ w.grownBy w' (some g) := by
  have HNm := Lib.hid HN
  have HRi := Lib.hid HR
  have HEr := Lib.hid HE
  have HP0 := Lib.hid hP0
  have HP1 := Lib.hid hP1
  have HNw : Hid (∀ w, Calls Tryd.prog 10 #[.int .i64 n] w fun e w' => ∃ g W, e = .returned (.pointer (some ⟨g, 0, none⟩)) ∧ SetAt w' g W (List.replicate n false) ∧ w.heap.size ≤ W ∧ Below w.heap.size w w') := by
    show ∀ w, _
    intro w
    have := new_any n w
    rwa [show clip (n : Int) = n by unfold clip; omega] at this
  have HN0 : Hid (∀ w, Calls Tryd.prog 10 #[.int .i64 0] w fun e w' => ∃ g W, e = .returned (.pointer (some ⟨g, 0, none⟩)) ∧ SetAt w' g W [] ∧ w.heap.size ≤ W ∧ Below w.heap.size w w') := fun w => new_any 0 w
  have HF := Lib.hid (fitsL_next n l)
  have HFe := Lib.hid (fitsL_end n l)
  have HF0 := Lib.hid (fitsL_zero n l)
  have HB := Lib.hid hl
  clear HN HR HE hP0 hP1 hl
  go_enter Tryd.func33, Tryd.ntmps33
  go_upto_region 2 with (first
    | (go_at_call 53; refine HNm.out.mono ?_; rintro e w1 ⟨rfl, hr1, hg1⟩)
    | (go_at_call 10; refine (HNw.out _).mono ?_; rintro e w2 ⟨gs, Ws, rfl, hS2, hW2, hb2⟩))
  have hgs2 : w.grownBy w2 (some g) := Lib.grownBy_below hg1 hb2
  have hr2 := HP0.out _ _ hr1 hb2
  have hWg : g < Ws := Nat.lt_of_lt_of_le (Nat.lt_of_lt_of_le hgw hg1.size) hW2
  have hr2d : P0 w2.drew := HP0.out _ _ hr2 ((Below.refl _ _).drew)
  have hS2d : SetAt w2.drew gs Ws (List.replicate n false) := hS2.below ((Below.refl _ _).drew)
  have k0 : w2.drew.cell? ⟨gs, 0, none⟩ = some (.int .i64 n) := by have := hS2d.c0; rwa [List.length_replicate] at this
  have hgsd : w.grownBy w2.drew (some g) := Lib.grownBy_below hgs2 ((Below.refl _ _).drew)
  have hsl := hS2.lt
  have hsg := hS2d.glt
  have hwW : w.heap.size ≤ Ws := Nat.le_trans hg1.size hW2
  have hwp : IntKind.i64.wrap ((n : Int) - 1) = (n : Int) - 1 := by go_arith
  clear hr1 hg1 hb2 hr2 hS2 hgs2 HNm HNw hW2
  go_region_law (first
    | (go_simp; go_at_call 54; refine (HRi.out _ hr2d).mono ?_; rintro e w3 ⟨v, rfl, ho, hr3, hg3⟩; have hS3 : SetAt w3 gs Ws (List.replicate n false) := hS2d.blocks (hg3.block _ hsg (by intro e; injection e; omega)) (hg3.block _ (Nat.lt_trans hsl hsg) (by intro e; injection e; omega)); have hg03 := Lib.grownBy_trans hgsd hg3; obtain ⟨A1, c1, rfl, hl1, hA1⟩ := ho.form))
  all_goals
    have hs3 : Ws < w3.heap.size := Nat.lt_trans hsl hS3.glt
    have hAb : ∀ a, A1 = some a → some a.block ≠ some Ws ∧ g < a.block := by
      intro a ha
      subst ha
      have := (World.ownsRow.lt (show World.ownsRow _ _ _ _ _ _ _ from ho) a.block rfl).1
      exact ⟨by intro e; injection e; omega, by have := hsg; omega⟩
    have hLi := Lies.of_own ho
    clear hS2d k0 hr2d hgsd ho hwp HRi
    simp only [Act.put, List.getElem_toArray, List.getElem_cons_succ, List.getElem_cons_zero, List.setIfInBounds_toArray, List.set_cons_zero, List.set_cons_succ]
    go_wp2_with fail
    go_loopg [21] l.length (fun r i wr => ∃ (j : Nat) (cs : List Bool), j + r = l.length ∧ i = .int .i64 j ∧ fitsL n l j cs ∧ SetAt wr gs Ws cs ∧ P1 wr ∧ Lies wr A1 (l.map (Value.int .i64)) ∧ w.grownBy wr (some g))
    case atStart => exact ⟨0, _, by omega, rfl, HF0.out, hS3, hr3, hLi, hg03⟩
    case round =>
      clear hS3 hr3 hLi hg03 hg3
      obtain ⟨j, cs, hj, rfl, hf, hS, hr, hL, hg⟩ := hrel
      by_cases hjn : j < l.length
      · obtain ⟨a, rfl, hc⟩ := hL.at (k := j) (by simpa using hjn)
        rw [List.getElem_map] at hc
        have hzb := HB.out _ (List.getElem_mem hjn)
        obtain ⟨k, hk⟩ : ∃ k : Nat, l[j] = (k : Int) := ⟨l[j].toNat, by omega⟩
        have hcl := hf.1
        have hkc : k < cs.length := by omega
        have HFn := Lib.hid (HF.out j cs hf hjn k hk)
        rw [hk] at hc
        have HP := Lib.hid (put_in gs Ws k cs wr hS hkc)
        have HL := Lib.hid hL
        have HR := Lib.hid hr
        have HG := Lib.hid hg
        have hji : (j : Int) < (l.length : Int) := by omega
        clear hf hS hL hr hg hk hzb
        go_wp2_with (go_at_call 14; refine HP.out.mono ?_; rintro e w5 ⟨rfl, hS5, hg5⟩)
        go_roundg (l.length - (j + 1))
        case measure => omega
        case rel => exact ⟨j + 1, cs.set k true, by omega, by go_num, HFn.out, hS5, HP1.out _ _ _ HR.out hg5 (fun k hk => by injection hk with hk; omega), HL.out.grown hg5 (fun a ha => (hAb a ha).1), grownBy_new HG.out hg5 (fun k hk => by injection hk with hk; omega)⟩
      · obtain rfl : j = l.length := by omega
        have he := HFe.out cs hf
        subst he
        have HE := Lib.hid (HEr.out wr hr)
        clear hf hL
        by_cases h0 : er = 0
        · subst h0
          go_wp2_with (go_at_call 39; refine HE.out.mono ?_; rintro e w' ⟨rfl, rfl⟩)
          go_ret
          try rw [if_pos rfl]
          first | exact ⟨_, _, rfl, hS, hwW, hr, hg⟩ | exact ⟨_, rfl, _, hS, hwW, hr, hg⟩
        · have hq : ((er : Int) != 0) = true := bne_iff_ne.mpr (by omega)
          go_wp2_with (first
            | (go_at_call 39; refine HE.out.mono ?_; rintro e w' ⟨rfl, rfl⟩)
            | (go_at_call 10; refine (HN0.out _).mono ?_; rintro e w6 ⟨gs6, Ws6, rfl, hS6, hW6, hb6⟩))
          go_ret
          try rw [if_neg h0]
          have hr6 := HP1.out _ _ none hr ⟨hb6.os, hb6.tape, hb6.output, hb6.size, fun k hk _ => hb6.block k hk⟩ (fun k hk => by cases hk)
          have hg6 := Lib.grownBy_below hg hb6
          have hw6 : w.heap.size ≤ Ws6 := Nat.le_trans hg.size hW6
          first | exact ⟨_, _, rfl, hS6, hw6, hr6, hg6⟩ | exact ⟨_, rfl, _, hS6, hw6, hr6, hg6⟩
end Go.Proofs.YtopgikjmeebgbaaDoor
