/- The walk of the law of a set's bytes, and of sets of any bytes. -/
import Derived.Test.YtopgikjmeebgbaaDoorCot
import Derived.Test.YtopgikjmeebgbaaDoorBw
namespace Go.Proofs.YtopgikjmeebgbaaDoor
open Go.RowKit
set_option linter.unusedVariables false
set_option linter.unusedSimpArgs false
set_option maxHeartbeats 3200000 in
theorem bitsBytes_walk (n : Int) (A : Option Addr) (c : Nat) (l : List (Int × Int)) (B : Option Addr) (d : Nat) (bs : List UInt8) (w : World) (_hn : (Lit.int .i64 n).wf = true) (hr : Lies w A (l.flatMap dc)) (hA : A = none → c = 0) (hlc : l.length ≤ c) (hm : l.length ≤ 9223372036854775807)
    (hrB : RB w B bs) (hB : B = none → d = 0) (hld : bs.length ≤ d) (hmB : bs.length ≤ 140737488351232) (hT : Tab w) :
    Calls Tryd.prog 9 #[.int .i64 n, .slice A l.length c, .slice B bs.length d] w fun e w' => e = .returned (.bool true) ∧ Below w.heap.size w w' := by
  have HMd := Lib.hid (made_any n A c l w hr hA hlc hm)
  have HRB := Lib.hid hrB
  have HT := Lib.hid hT
  clear hr hA hlc hm hT _hn hrB
  go_enter Tryd.func9, Tryd.ntmps9
  go_upto_region 2 with (go_at_call 16; refine HMd.out.mono ?_; rintro e w1 ⟨g, W, gr, R, bl, rfl, hP1, hbl, hW, hb1⟩)
  clear HMd
  go_upto_region 3 with (first
    | (go_at_call 32; refine (readok B d bs w1 (by omega) hB (HRB.out.below hb1)).mono ?_; rintro e w2 ⟨q, rfl, hq2, hqw, hb2⟩)
    | (go_at_call 36; refine (clone_any B d bs w2 (by omega) hB (HRB.out.below (hb1.trans (hb2.mono hb1.size)))).mono ?_; rintro e w3 ⟨v3, rfl, ho3, hb3⟩; obtain ⟨A3, c3, rfl, hl3, hA3⟩ := ho3.form))
  have hb02 := hb1.trans (hb2.mono hb1.size)
  have hb03 := hb02.trans (hb3.mono hb02.size)
  have hq2l := hq2.lt
  have hA3q : ∀ a, A3 = some a → q < a.block ∧ a.block < w3.heap.size := by
    intro a ha
    subst ha
    have := World.ownsRow.lt (show World.ownsRow _ _ _ _ _ _ _ from ho3) a.block rfl
    omega
  have hf4 : RfAt (w3.alloc (.cells #[.slice A3 bs.length c3, .int .i64 0] 57)) w3.heap.size A3 c3 bs :=
    ⟨heap_alloc_new w3 _, (RB.of_own ho3).below ((Below.refl _ _).alloc (Nat.le_refl _) _), hA3, hl3, fun a ha => (hA3q a ha).2⟩
  have hb34 : Below w3.heap.size w3 (w3.alloc (.cells #[.slice A3 bs.length c3, .int .i64 0] 57)) := (Below.refl _ _).alloc (Nat.le_refl _) _
  have hqt : q < w3.heap.size := Nat.lt_of_lt_of_le hq2l hb3.size
  have hq4 := (hq2.alike hb3).alike hb34
  have hP4 := ((hP1.below hb2).below hb3).below hb34
  have hb04 := hb03.trans (hb34.mono hb03.size)
  have hwq : w.heap.size ≤ q := Nat.le_trans hb1.size hqw
  generalize w3.alloc (.cells #[.slice A3 bs.length c3, .int .i64 0] 57) = w4 at hf4 hb34 hq4 hP4 hb04 ⊢
  have hqt4 : w3.heap.size ≤ w4.heap.size := hb34.size
  have hq3 := Nat.le_trans hb03.size (Nat.le_refl _)
  generalize w3.heap.size = qt at hf4 hqt hqt4 hA3q hq3 ⊢
  have hT4 := HT.out.below hb04
  have hsl := setBytes_len bl (by omega)
  have HBy : Hid (∀ w', Below w4.heap.size w4 w' → Calls Tryd.prog 31 #[.pointer (some ⟨g, 0, none⟩)] w' fun e w'' => ∃ v, e = .returned v ∧ OB w'' w'.heap.size v (setBytes bl) ∧ Below w'.heap.size w' w'' ∧ Below w4.heap.size w4 w'') :=
    fun w' hb => (bytes_any g W bl w' (hP4.set.below hb) (hT4.below hb)).mono fun e w'' ⟨v, h1, h2, h3⟩ => ⟨v, h1, h2, h3, hb.trans (h3.mono hb.size)⟩
  have HXy : Hid (∀ w', Below w4.heap.size w4 w' → Calls Tryd.prog 37 #[.pointer (some ⟨gr, 0, none⟩)] w' fun e w'' => ∃ v, e = .returned v ∧ OB w'' w'.heap.size v (setBytes bl) ∧ Below w'.heap.size w' w'' ∧ Below w4.heap.size w4 w'') :=
    fun w' hb => (rbytesset_any gr R bl w' (hP4.ref.below hb)).mono fun e w'' ⟨v, h1, h2, h3⟩ => ⟨v, h1, h2, h3, hb.trans (h3.mono hb.size)⟩
  have HEq : Hid (∀ (w' : World) (A B : Option Addr) (c d : Nat), RB w' A (setBytes bl) → RB w' B (setBytes bl) → Calls Tryd.prog 30 #[.slice A (setBytes bl).length c, .slice B (setBytes bl).length d] w' fun e w'' => e = .returned (.bool true) ∧ w' = w'') :=
    fun w' A B c d h1 h2 => (equal_any A B c d (setBytes bl) (setBytes bl) w' h1 h2).mono fun e w'' ⟨k1, k2⟩ => ⟨by rw [k1, beq_self_eq_true], k2⟩
  generalize setBytes bl = sb at HBy HXy HEq hsl
  have HRd : Hid (∀ w', Below w4.heap.size w4 w' → Calls Tryd.prog 33 #[.pointer (some ⟨q, 0, none⟩)] w' fun e w'' => ∃ gs Ws, e = .returned (.pointer (some ⟨gs, 0, none⟩)) ∧ SetAt w'' gs Ws (setP bs).bits ∧ qt < Ws ∧ Behind w'' q (setP bs) ∧ RfOk w'' qt bs ∧ Below w.heap.size w w'') := by
    intro w' hb
    refine (bread_bytes q bs w' (hq4.alike hb) (by omega)).mono ?_
    rintro e w'' ⟨gs, Ws, h1, h2, h3, h4, h5⟩
    have hb0 := hb04.trans (hb.mono hb04.size)
    have hft : qt < w'.heap.size := Nat.lt_of_lt_of_le hf4.lt hb.size
    exact ⟨gs, Ws, h1, h2, Nat.lt_of_lt_of_le hft h3, h4, RfOk.made (hf4.alike hb) h5 (by omega) (fun a ha e => by have := (hA3q a ha).1; omega), hb0.grown h5 hb0.size (fun k hk => by injection hk with hk; omega)⟩
  have HRf : Hid (∀ w' gs Ws, RfOk w' qt bs → SetAt w' gs Ws (setP bs).bits → qt < Ws → Behind w' q (setP bs) → Below w.heap.size w w' → Calls Tryd.prog 38 #[.pointer (some ⟨qt, 0, none⟩)] w' fun e w'' => ∃ g2 R2, e = .returned (.pointer (some ⟨g2, 0, none⟩)) ∧ RefAt w'' g2 R2 (setP bs).bits ∧ SetAt w'' gs Ws (setP bs).bits ∧ Behind w'' q (setP bs) ∧ BehindF w'' qt (setP bs) ∧ Below w.heap.size w w'') := by
    intro w' gs Ws h1 h2 h3 h4 hb
    refine (rread_bytes qt bs w' h1 (by omega)).mono ?_
    rintro e w'' ⟨g2, R2, k1, k2, k3, k4, k5⟩
    have hl := h2.lt
    exact ⟨g2, R2, k1, k2, h2.blocks (k5.block _ h2.glt (by intro e; injection e; omega)) (k5.block _ (Nat.lt_trans hl h2.glt) (by intro e; injection e; omega)), h4.own k5 (fun k hk => by injection hk with hk; omega), k4, hb.grown k5 hb.size (fun k hk => by injection hk with hk; omega)⟩
  have HSm : Hid (∀ w' gs Ws g2 R2, SetAt w' gs Ws (setP bs).bits → RefAt w' g2 R2 (setP bs).bits → Behind w' q (setP bs) → BehindF w' qt (setP bs) → Below w.heap.size w w' → Calls Tryd.prog 19 #[.pointer (some ⟨gs, 0, none⟩), .pointer (some ⟨g2, 0, none⟩)] w' fun e w'' => e = .returned (.bool true) ∧ Behind w'' q (setP bs) ∧ w''.cell? ⟨qt, 1, none⟩ = some (.int .i64 (setP bs).err) ∧ (∃ A9 c9, w''.cell? ⟨qt, 0, none⟩ = some (.slice A9 (setP bs).left.length c9)) ∧ Below w.heap.size w w'') := by
    intro w' gs Ws g2 R2 h1 h2 h3 h4 hb
    refine (same_any gs Ws g2 R2 (setP bs).bits w' h1 h2 (HT.out.below hb)).mono ?_
    rintro e w'' ⟨k1, k2⟩
    have h5 := h4.below k2
    exact ⟨k1, h3.below k2, behindF_err h5, behindF_rest h5, hb.trans (k2.mono hb.size)⟩
  have HEr : Hid (∀ w', Behind w' q (setP bs) → Calls Tryd.prog 39 #[.pointer (some ⟨q, 0, none⟩)] w' fun e w'' => e = .returned (.int .i64 (setP bs).err) ∧ w' = w'') := fun w' h => behind_err q _ w' h
  have HLe : Hid (∀ w', Behind w' q (setP bs) → Calls Tryd.prog 40 #[.pointer (some ⟨q, 0, none⟩)] w' fun e w'' => e = .returned (.int .i64 (setP bs).left.length) ∧ w' = w'') := fun w' h => behind_left q _ w' h
  have HAw : Hid (∀ w', Below w.heap.size w w' → Calls Tryd.prog 15 #[] w' fun e w'' => e = .returned (.bool true) ∧ Below w.heap.size w w'') :=
    fun w' hb => (awake_any w' (HT.out.below hb)).mono fun e w'' ⟨k1, k2⟩ => ⟨k1, hb.trans (k2.mono hb.size)⟩
  generalize setP bs = o at HRd HRf HSm HEr HLe
  have hbd : Below w4.heap.size w4 w4.drew := (Below.refl _ _).drew
  clear hP1 hb1 hb2 hb3 hq2 ho3 hA3 hl3 hf4 hq4 hP4 hT4 hb34 hA3q hq2l hqw hb02 hb03 hq3 hb04 hqt hqt4 hwq HT HRB
  go_region_law (first
    | (go_simp; go_at_call 31; refine (HBy.out _ (by assumption)).mono ?_; rintro e w5 ⟨v5, rfl, ho5, hb5, hb45⟩; obtain ⟨A5, c5, rfl, hl5, hA5⟩ := ho5.form; have r5 := RB.of_own ho5; try (have r6 := RB.below r6 hb5))
    | (go_simp; go_at_call 37; refine (HXy.out _ (by assumption)).mono ?_; rintro e w6 ⟨v6, rfl, ho6, hb6, hb46⟩; obtain ⟨A6, c6, rfl, hl6, hA6⟩ := ho6.form; have r6 := RB.of_own ho6; try (have r5 := RB.below r5 hb6))
    | (go_simp; go_at_call 30; refine (HEq.out _ _ _ _ _ r5 r6).mono ?_; rintro e w' ⟨rfl, rfl⟩)
    | (go_simp; go_at_call 33; refine (HRd.out _ (by assumption)).mono ?_; rintro e w7 ⟨gs, Ws, rfl, hS7, hW7, hB7, hF7, hb7⟩)
    | (go_simp; go_at_call 38; refine (HRf.out _ gs Ws hF7 hS7 hW7 hB7 hb7).mono ?_; rintro e w8 ⟨g2, R2, rfl, hR8, hS8, hB8, hF8, hb8⟩)
    | (go_simp; go_at_call 19; refine (HSm.out _ _ _ _ _ hS8 hR8 hB8 hF8 hb8).mono ?_; rintro e w9 ⟨rfl, hB9, hk9, ⟨A9, c9, hk0⟩, hb9⟩)
    | (go_simp; go_at_call 39; refine (HEr.out _ hB9).mono ?_; rintro e w' ⟨rfl, rfl⟩)
    | (go_simp; go_at_call 40; refine (HLe.out _ hB9).mono ?_; rintro e w' ⟨rfl, rfl⟩)
    | (go_simp; go_at_call 15; refine (HAw.out _ hb9).mono ?_; rintro e w10 ⟨rfl, hb10⟩))
  all_goals simp only [Act.put, List.getElem_toArray, List.getElem_cons_succ, List.getElem_cons_zero, List.setIfInBounds_toArray, List.set_cons_zero, List.set_cons_succ]
  all_goals go_wp2
  all_goals go_ret
  all_goals exact ⟨rfl, by assumption⟩
end Go.Proofs.YtopgikjmeebgbaaDoor
