/- A set read of a set's bytes; the walk of the law. -/
import Derived.Test.YtopgikjmeebgbaaDoorBu
import Derived.Deep.RegionLaw
namespace Go.Proofs.YtopgikjmeebgbaaDoor
open Go.RowKit
set_option linter.unusedVariables false
set_option linter.unusedSimpArgs false
/-- The bits so far: those of the first j places that are set. -/
def fits (bs : List Bool) (j : Nat) (cs : List Bool) : Prop := cs.length = bs.length ∧ ∀ i (h : i < cs.length), cs[i] = decide ((i : Int) ∈ (idx bs 0).take j)
theorem fits_zero (bs : List Bool) : fits bs 0 (List.replicate bs.length false) := by
  refine ⟨List.length_replicate, fun i h => ?_⟩
  rw [List.getElem_replicate, List.take_zero]; simp
theorem fits_next (bs : List Bool) (j : Nat) (cs : List Bool) (h : fits bs j cs) (hj : j < (idx bs 0).length) (k : Nat) (hk : (idx bs 0)[j] = (k : Int)) : fits bs (j + 1) (cs.set k true) := by
  refine ⟨by rw [List.length_set]; exact h.1, fun i hi => ?_⟩
  rw [List.length_set] at hi
  rw [List.take_succ_eq_append_getElem hj, hk]
  by_cases e : k = i
  · subst e
    rw [List.getElem_set_self]; simp
  · rw [List.getElem_set_ne e, h.2 i hi]
    refine decide_eq_decide.2 ?_
    rw [List.mem_append, List.mem_singleton]
    constructor
    · exact .inl
    · rintro (h | h)
      · exact h
      · omega
theorem fits_end (bs cs : List Bool) (h : fits bs (idx bs 0).length cs) : cs = bs := by
  refine List.ext_getElem h.1 fun i h1 h2 => ?_
  rw [h.2 i h1, List.take_length]
  have := mem_idx bs i
  by_cases hb : bs[i] = true
  · rw [hb]; exact decide_eq_true (this.2 ⟨i, rfl, by rw [List.getElem?_eq_getElem h2, hb]⟩)
  · have hb' : bs[i] = false := by simpa using hb
    rw [hb']
    refine decide_eq_false fun hm => ?_
    obtain ⟨k, h3, h4⟩ := this.1 hm
    obtain rfl : i = k := by omega
    rw [List.getElem?_eq_getElem h2, hb'] at h4
    cases h4
set_option maxHeartbeats 3200000 in
theorem bread_any (g : Nat) (bs : List Bool) (w : World) (h : RdOk w g (setBytes bs)) (hsm : bs.length ≤ 65536) :
    Calls Tryd.prog 33 #[.pointer (some ⟨g, 0, none⟩)] w fun e w' => ∃ gs Ws, e = .returned (.pointer (some ⟨gs, 0, none⟩)) ∧ SetAt w' gs Ws bs ∧ RdOk w' g [] ∧ w.grownBy w' (some g) := by
  have hgw := h.lt
  have hll := idx_len_le bs 0
  have hgl := gapBytes_le (idx bs 0) (-1)
  have hnl := need_le (idx bs 0).length
  have HNm := Lib.hid (rnumok g bs.length 65536 (numBytes (idx bs 0).length ++ gapBytes (-1) (idx bs 0)) w (by omega) (by omega) h (by rw [List.length_append, numBytes_length]; omega))
  have HNw : Hid (∀ w, Calls Tryd.prog 10 #[.int .i64 bs.length] w fun e w' => ∃ g W, e = .returned (.pointer (some ⟨g, 0, none⟩)) ∧ SetAt w' g W (List.replicate bs.length false) ∧ w.heap.size ≤ W ∧ Below w.heap.size w w') := by
    show ∀ w, _
    intro w
    have := new_any bs.length w
    rwa [show clip (bs.length : Int) = bs.length by unfold clip; omega] at this
  have HRi : Hid (∀ w', RdOk w' g (numBytes (idx bs 0).length ++ gapBytes (-1) (idx bs 0)) → Calls Tryd.prog 54 #[.pointer (some ⟨g, 0, none⟩), .int .i64 bs.length, .int .i64 ((bs.length : Int) - 1)] w' fun e w'' => ∃ v, e = .returned v ∧ OI w'' w'.heap.size v (idx bs 0) ∧ RdOk w'' g [] ∧ w'.grownBy w'' (some g)) := fun w' h =>
    rrisingok g bs.length ((bs.length : Int) - 1) (idx bs 0) [] w' (by omega) (by omega) (idx_up bs) (fun z hz => (idx_bound bs z hz).2) (by omega) (by rw [List.append_nil]; exact h) (by decide)
  have HF := Lib.hid (fits_next bs)
  have HFe := Lib.hid (fits_end bs)
  have HF0 := Lib.hid (fits_zero bs)
  have HB := Lib.hid (idx_bound bs)
  clear h hgl hnl
  generalize hlq : idx bs 0 = l at HNm HRi hll HB
  have HLq := Lib.hid hlq
  clear hlq
  go_enter Tryd.func33, Tryd.ntmps33
  go_upto_region 2 with (first
    | (go_at_call 53; refine HNm.out.mono ?_; rintro e w1 ⟨rfl, hr1, hg1⟩)
    | (go_at_call 10; refine (HNw.out _).mono ?_; rintro e w2 ⟨gs, Ws, rfl, hS2, hW2, hb2⟩))
  have hgs2 : w.grownBy w2 (some g) := Lib.grownBy_below hg1 hb2
  have hr2 := hr1.alike hb2
  have hWg : g < Ws := Nat.lt_of_lt_of_le (Nat.lt_of_lt_of_le hgw hg1.size) hW2
  have hr2d : RdOk w2.drew g (numBytes l.length ++ gapBytes (-1) l) := hr2.alike ((Below.refl _ _).drew)
  have hS2d : SetAt w2.drew gs Ws (List.replicate bs.length false) := hS2.below ((Below.refl _ _).drew)
  have k0 : w2.drew.cell? ⟨gs, 0, none⟩ = some (.int .i64 bs.length) := by have := hS2d.c0; rwa [List.length_replicate] at this
  have hgsd : w.grownBy w2.drew (some g) := Lib.grownBy_below hgs2 ((Below.refl _ _).drew)
  have hsl := hS2.lt
  have hsg := hS2d.glt
  have hwW : w.heap.size ≤ Ws := Nat.le_trans hg1.size hW2
  have hwp : IntKind.i64.wrap ((bs.length : Int) - 1) = (bs.length : Int) - 1 := by go_arith
  clear hr1 hg1 hb2 hr2 hS2 hgs2 HNm HNw hW2
  go_region_law (first
    | (go_simp; go_at_call 54; refine (HRi.out _ hr2d).mono ?_; rintro e w3 ⟨v, rfl, ho, hr3, hg3⟩; have hS3 : SetAt w3 gs Ws (List.replicate bs.length false) := hS2d.blocks (hg3.block _ hsg (by intro e; injection e; omega)) (hg3.block _ (Nat.lt_trans hsl hsg) (by intro e; injection e; omega)); have hg03 := Lib.grownBy_trans hgsd hg3; obtain ⟨A1, c1, rfl, hl1, hA1⟩ := ho.form))
  all_goals
    have hs3 : Ws < w3.heap.size := Nat.lt_trans hsl hS3.glt
    have hbase : w2.drew.heap.size ≤ w2.drew.heap.size := Nat.le_refl _
    have hAb : ∀ a, A1 = some a → some a.block ≠ some Ws ∧ g < a.block := by
      intro a ha
      subst ha
      have := (World.ownsRow.lt (show World.ownsRow _ _ _ _ _ _ _ from ho) a.block rfl).1
      exact ⟨by intro e; injection e; omega, by have := hsg; omega⟩
    have hLi := Lies.of_own ho
    have hz := Lib.hid hll
    clear hS2d k0 hr2d hgsd ho hwp HRi
    simp only [Act.put, List.getElem_toArray, List.getElem_cons_succ, List.getElem_cons_zero, List.setIfInBounds_toArray, List.set_cons_zero, List.set_cons_succ]
    go_wp2_with fail
    go_loopg [21] l.length (fun r i wr => ∃ (j : Nat) (cs : List Bool), j + r = l.length ∧ i = .int .i64 j ∧ fits bs j cs ∧ SetAt wr gs Ws cs ∧ RdOk wr g [] ∧ Lies wr A1 (l.map (Value.int .i64)) ∧ w.grownBy wr (some g))
    case atStart => exact ⟨0, _, by omega, rfl, HF0.out, hS3, hr3, hLi, hg03⟩
    case round =>
      clear hS3 hr3 hLi hg03 hg3
      obtain ⟨j, cs, hj, rfl, hf, hS, hr, hL, hg⟩ := hrel
      by_cases hjn : j < l.length
      · obtain ⟨a, rfl, hc⟩ := hL.at (k := j) (by simpa using hjn)
        rw [List.getElem_map] at hc
        have hzb := HB.out _ (List.getElem_mem hjn)
        obtain ⟨k, hk⟩ : ∃ k : Nat, l[j] = (k : Int) := ⟨l[j].toNat, by omega⟩
        have hcl := hf.1
        have hkc : k < cs.length := by omega
        have HFn := Lib.hid (HF.out j cs hf (by rw [HLq.out]; exact hjn) k (by simp only [HLq.out]; exact hk))
        rw [hk] at hc
        have HP := Lib.hid (put_in gs Ws k cs wr hS hkc)
        have HL := Lib.hid hL
        have HR := Lib.hid hr
        have HG := Lib.hid hg
        have hji : (j : Int) < (l.length : Int) := by omega
        clear hf hS hL hr hg hk hzb
        go_wp2_with (go_at_call 14; refine HP.out.mono ?_; rintro e w5 ⟨rfl, hS5, hg5⟩)
        go_roundg (l.length - (j + 1))
        case measure => omega
        case rel => exact ⟨j + 1, cs.set k true, by omega, by go_num, HFn.out, hS5, HR.out.own hg5 (fun k hk => by injection hk with hk; omega), HL.out.grown hg5 (fun a ha => (hAb a ha).1), grownBy_new HG.out hg5 (fun k hk => by injection hk with hk; omega)⟩
      · obtain rfl : j = l.length := by omega
        have he : cs = bs := by
          have hf2 := hf
          rw [← HLq.out] at hf2
          exact HFe.out cs hf2
        subst he
        have HE := Lib.hid (rerrok g [] wr hr)
        clear hf hL
        go_wp2_with (go_at_call 39; refine HE.out.mono ?_; rintro e w' ⟨rfl, rfl⟩)
        go_ret
        first | exact ⟨_, _, rfl, hS, hr, hg⟩ | exact ⟨_, rfl, _, hS, hr, hg⟩ | exact ⟨_, rfl, ⟨_, hS⟩, hr, hg⟩
end Go.Proofs.YtopgikjmeebgbaaDoor
