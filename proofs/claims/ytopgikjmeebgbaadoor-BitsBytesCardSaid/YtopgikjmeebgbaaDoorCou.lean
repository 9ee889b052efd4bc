/- The document's sets read of any bytes, and its sets' bytes. -/
import Derived.Test.YtopgikjmeebgbaaDoorCow
namespace Go.Proofs.YtopgikjmeebgbaaDoor
open Go.RowKit
set_option linter.unusedVariables false
set_option linter.unusedSimpArgs false
set_option maxHeartbeats 3200000 in
theorem rread_gen (g n er : Nat) (l : List Int) (P0 P1 : World → Prop) (w : World) (hgw : g < w.heap.size)
    (HN : Calls Tryd.prog 57 #[.pointer (some ⟨g, 0, none⟩), .int .i64 65536] w fun e w1 => e = .returned (.int .i64 n) ∧ P0 w1 ∧ w.grownBy w1 (some g))
    (HR : ∀ w1, P0 w1 → Calls Tryd.prog 58 #[.pointer (some ⟨g, 0, none⟩), .int .i64 n, .int .i64 ((n : Int) - 1)] w1 fun e w2 => ∃ v, e = .returned v ∧ OI w2 w1.heap.size v l ∧ P1 w2 ∧ w1.grownBy w2 (some g))
    (HE : ∀ w1, P1 w1 → w1.cell? ⟨g, 1, none⟩ = some (.int .i64 er))
    (hP0 : ∀ w w', P0 w → Below w.heap.size w w' → P0 w')
    (hP1 : ∀ w w' row, P1 w → w.grownBy w' row → (∀ k, row = some k → g < k) → P1 w')
    (hl : ∀ z ∈ l, 0 ≤ z ∧ z ≤ (n : Int) - 1) (hn : n ≤ 65536) (hll : l.length ≤ n) (her : er < 10) :
    Calls Tryd.prog 38 #[.pointer (some ⟨g, 0, none⟩)] w fun e w' => ∃ gs Rs, e = .returned (.pointer (some ⟨gs, 0, none⟩)) ∧ RefAt w' gs Rs (if er = 0 then bitsOf n l else []) ∧ w.heap.size ≤ Rs ∧ P1 w' ∧ w.grownBy w' (some g) := by
  have HNm := Lib.hid HN
  have HRi := Lib.hid HR
  have HEr := Lib.hid HE
  have HP0 := Lib.hid hP0
  have HP1 := Lib.hid hP1
  have HNw : Hid (∀ w, Calls Tryd.prog 43 #[.int .i64 n] w fun e w' => ∃ g R, e = .returned (.pointer (some ⟨g, 0, none⟩)) ∧ RefAt w' g R (List.replicate n false) ∧ w.heap.size ≤ R ∧ Below w.heap.size w w') := by
    show ∀ w, _
    intro w
    have := rnew_any n w
    rwa [show clip (n : Int) = n by unfold clip; omega] at this
  have HN0 : Hid (∀ w, Calls Tryd.prog 43 #[.int .i64 0] w fun e w' => ∃ g R, e = .returned (.pointer (some ⟨g, 0, none⟩)) ∧ RefAt w' g R [] ∧ w.heap.size ≤ R ∧ Below w.heap.size w w') := fun w => rnew_any 0 w
  have HF := Lib.hid (fitsL_next n l)
  have HFe := Lib.hid (fitsL_end n l)
  have HF0 := Lib.hid (fitsL_zero n l)
  have HB := Lib.hid hl
  clear HN HR HE hP0 hP1 hl
  go_enter Tryd.func38, Tryd.ntmps38
  go_upto_region 2 with (first
    | (go_at_call 57; refine HNm.out.mono ?_; rintro e w1 ⟨rfl, hr1, hg1⟩)
    | (go_at_call 43; refine (HNw.out _).mono ?_; rintro e w2 ⟨gs, Rs, rfl, hS2, hW2, hb2⟩))
  have hgs2 : w.grownBy w2 (some g) := Lib.grownBy_below hg1 hb2
  have hr2 := HP0.out _ _ hr1 hb2
  have hWg : g < Rs := Nat.lt_of_lt_of_le (Nat.lt_of_lt_of_le hgw hg1.size) hW2
  have hr2d : P0 w2.drew := HP0.out _ _ hr2 ((Below.refl _ _).drew)
  have hS2d : RefAt w2.drew gs Rs (List.replicate n false) := hS2.below ((Below.refl _ _).drew)
  have k0 : w2.drew.cell? ⟨gs, 0, none⟩ = some (.slice (some ⟨Rs, 0, none⟩) n n) := by have := hS2d.c0; rwa [List.length_replicate] at this
  have hgsd : w.grownBy w2.drew (some g) := Lib.grownBy_below hgs2 ((Below.refl _ _).drew)
  have hsl := hS2.lt
  have hsg := hS2d.glt
  have hwW : w.heap.size ≤ Rs := Nat.le_trans hg1.size hW2
  have hwp : IntKind.i64.wrap ((n : Int) - 1) = (n : Int) - 1 := by go_arith
  clear hr1 hg1 hb2 hr2 hS2 hgs2 HNm HNw hW2
  go_region_law (first
    | (go_simp; go_at_call 58; refine (HRi.out _ hr2d).mono ?_; rintro e w3 ⟨v, rfl, ho, hr3, hg3⟩; have hS3 : RefAt w3 gs Rs (List.replicate n false) := hS2d.blocks (hg3.block _ hsg (by intro e; injection e; omega)) (hg3.block _ (Nat.lt_trans hsl hsg) (by intro e; injection e; omega)); have hg03 := Lib.grownBy_trans hgsd hg3; obtain ⟨A1, c1, rfl, hl1, hA1⟩ := ho.form))
  all_goals
    have hs3 : Rs < w3.heap.size := Nat.lt_trans hsl hS3.glt
    have hAb : ∀ a, A1 = some a → some a.block ≠ some Rs ∧ g < a.block := by
      intro a ha
      subst ha
      have := (World.ownsRow.lt (show World.ownsRow _ _ _ _ _ _ _ from ho) a.block rfl).1
      exact ⟨by intro e; injection e; omega, by have := hsg; omega⟩
    have hLi := Lies.of_own ho
    have hEc := HEr.out w3 hr3
    clear hS2d k0 hr2d hgsd ho hwp HRi
    simp only [Act.put, List.getElem_toArray, List.getElem_cons_succ, List.getElem_cons_zero, List.setIfInBounds_toArray, List.set_cons_zero, List.set_cons_succ]
    by_cases h0 : er = 0
    · subst h0
      have hEc : w3.cell? ⟨g, 1, none⟩ = some (.int .i64 0) := hEc
      go_wp2_with fail
      go_loopg [31] l.length (fun r i wr => ∃ (j : Nat) (cs : List Bool), j + r = l.length ∧ i = .int .i64 j ∧ fitsL n l j cs ∧ RefAt wr gs Rs cs ∧ P1 wr ∧ Lies wr A1 (l.map (Value.int .i64)) ∧ w.grownBy wr (some g))
      case atStart => exact ⟨0, _, by omega, rfl, HF0.out, hS3, hr3, hLi, hg03⟩
      case round =>
        clear hS3 hr3 hLi hg03 hg3 hEc
        obtain ⟨j, cs, hj, rfl, hf, hS, hr, hL, hg⟩ := hrel
        by_cases hjn : j < l.length
        · obtain ⟨a, rfl, hc⟩ := hL.at (k := j) (by simpa using hjn)
          rw [List.getElem_map] at hc
          have hzb := HB.out _ (List.getElem_mem hjn)
          obtain ⟨k, hk⟩ : ∃ k : Nat, l[j] = (k : Int) := ⟨l[j].toNat, by omega⟩
          have hcl := hf.1
          have hkc : k < cs.length := by omega
          have HFn := Lib.hid (HF.out j cs hf hjn k hk)
          rw [hk] at hc
          have hc0 := hS.c0
          have hcb := hS.bit k hkc
          have hfr := hS.free k hkc
          have HPt := Lib.hid (hS.put k hkc true)
          have hgP := grown_setCell' wr Rs k (.bool true)
          have HL := Lib.hid hL
          have HR := Lib.hid hr
          have HG := Lib.hid hg
          have hji : (j : Int) < (l.length : Int) := by omega
          have hkci : (k : Int) < (cs.length : Int) := by omega
          clear hf hS hL hr hg hk hzb
          generalize cs[k] = bo at hcb
          go_wp2
          go_roundg (l.length - (j + 1))
          case measure => omega
          case rel => exact ⟨j + 1, cs.set k true, by omega, by go_num, HFn.out, HPt.out, HP1.out _ _ _ HR.out hgP (fun k hk => by injection hk with hk; omega), HL.out.grown hgP (fun a ha => (hAb a ha).1), grownBy_new HG.out hgP (fun k hk => by injection hk with hk; omega)⟩
        · obtain rfl : j = l.length := by omega
          have he := HFe.out cs hf
          subst he
          clear hf hL
          go_wp2
          go_ret
          try rw [if_pos rfl]
          first | exact ⟨_, _, rfl, hS, hwW, hr, hg⟩ | exact ⟨_, rfl, _, hS, hwW, hr, hg⟩
    · have hq : ((er : Int) != 0) = true := bne_iff_ne.mpr (by omega)
      go_wp2_with (go_at_call 43; refine (HN0.out _).mono ?_; rintro e w6 ⟨gs6, Rs6, rfl, hS6, hW6, hb6⟩)
      go_ret
      try rw [if_neg h0]
      have hr6 := HP1.out _ _ none hr3 ⟨hb6.os, hb6.tape, hb6.output, hb6.size, fun k hk _ => hb6.block k hk⟩ (fun k hk => by cases hk)
      have hg6 := Lib.grownBy_below hg03 hb6
      have hw6 : w.heap.size ≤ Rs6 := Nat.le_trans hg03.size hW6
      first | exact ⟨_, _, rfl, hS6, hw6, hr6, hg6⟩ | exact ⟨_, rfl, _, hS6, hw6, hr6, hg6⟩
set_option maxHeartbeats 1600000 in
theorem rbytesset_any (g R : Nat) (bs : List Bool) (w : World) (h : RefAt w g R bs) :
    Calls Tryd.prog 37 #[.pointer (some ⟨g, 0, none⟩)] w fun e w' => ∃ v, e = .returned v ∧ OB w' w.heap.size v (setBytes bs) ∧ Below w.heap.size w w' := by
  have hsm := h.small
  have h0 := h.c0
  have HN := rnum_any none 0 [] bs.length w (by simp) (by omega) (fun _ => rfl) (Lies.nil _ _)
  rw [List.nil_append, show numNat (bs.length : Int) = bs.length by unfold numNat; omega] at HN
  have HN := Lib.hid HN
  have HL := Lib.hid (fun w' (hb : Below w.heap.size w w') => rlist_any g R bs w' (h.below hb))
  have hll : (idx bs 0).length ≤ 65536 := Nat.le_trans (idx_len_le bs 0) hsm
  have hlb := Lib.hid (idx_bound bs)
  have hnl : (numBytes bs.length).length ≤ 9 := by rw [numBytes_length]; have := need_le bs.length; omega
  have HE : Hid (setBytes bs = numBytes bs.length ++ risingBytes (idx bs 0)) := by show _ = _; rw [setBytes, rising_idx]
  have HB2 : Hid (∀ z ∈ idx bs 0, -9223372036854775808 ≤ z ∧ z ≤ 9223372036854775807) := fun z hz => by have := hlb.out z hz; omega
  generalize idx bs 0 = l at HL hll HE HB2
  generalize numBytes bs.length = nb at HN hnl HE
  clear h
  go_enter Tryd.func37, Tryd.ntmps37
  go_wp2_with (first
    | (go_at_call 56; refine HN.out.mono ?_; rintro e w1 ⟨v, rfl, ho, hb1⟩; obtain ⟨A1, c1, rfl, hl1, hA1⟩ := ho.form)
    | (go_at_call 46; refine (HL.out _ hb1).mono ?_; rintro e w2 ⟨v2, rfl, ho2, hb2⟩; obtain ⟨A2, c2, rfl, hl2, hA2⟩ := ho2.form; have HR := Lib.hid (rrising_any A1 A2 c1 c2 nb l w2 (by omega) hA1 hl2 HB2.out ((RB.of_own ho).below hb2) (Lies.of_own ho2)))
    | (go_at_call 55; refine HR.out.mono ?_; rintro e w3 ⟨v3, rfl, ho3, hb3⟩))
  go_ret
  have hb02 := hb1.trans (hb2.mono hb1.size)
  exact ⟨_, rfl, by rw [HE.out]; exact ho3.mono hb02.size, hb02.trans (hb3.mono hb02.size)⟩
end Go.Proofs.YtopgikjmeebgbaaDoor
