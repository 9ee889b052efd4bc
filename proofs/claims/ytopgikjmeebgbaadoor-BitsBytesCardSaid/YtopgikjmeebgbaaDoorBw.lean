/- The walk of the law of bytes read back. -/
import Derived.Test.YtopgikjmeebgbaaDoorBv
namespace Go.Proofs.YtopgikjmeebgbaaDoor
open Go.RowKit
set_option linter.unusedVariables false
set_option linter.unusedSimpArgs false
theorem end_ok (g : Nat) (w : World) (h : RdOk w g []) :
    Calls Tryd.prog 34 #[.pointer (some ⟨g, 0, none⟩)] w fun e w' => e = .returned (.int .i64 0) ∧ w = w' := by
  have HL := Lib.hid (rleftok g [] w h)
  have HE := Lib.hid (rerrok g [] w h)
  clear h
  go_enter Tryd.func34, Tryd.ntmps34
  go_wp2_with (first
    | (go_at_call 40; refine HL.out.mono ?_; rintro e w' ⟨rfl, rfl⟩)
    | (go_at_call 39; refine HE.out.mono ?_; rintro e w' ⟨rfl, rfl⟩))
  go_ret
  exact ⟨rfl, rfl⟩
set_option maxHeartbeats 3200000 in
theorem bitsBack_walk (n : Int) (A : Option Addr) (c : Nat) (l : List (Int × Int)) (w : World) (_hn : (Lit.int .i64 n).wf = true) (hr : Lies w A (l.flatMap dc)) (hA : A = none → c = 0) (hlc : l.length ≤ c) (hm : l.length ≤ 9223372036854775807) (hT : Tab w) :
    Calls Tryd.prog 8 #[.int .i64 n, .slice A l.length c] w fun e w' => e = .returned (.bool true) ∧ Below w.heap.size w w' := by
  have HMd := Lib.hid (made_any n A c l w hr hA hlc hm)
  have HT := Lib.hid hT
  clear hr hA hlc hm hT _hn
  go_enter Tryd.func8, Tryd.ntmps8
  go_upto_region 2 with (go_at_call 16; refine HMd.out.mono ?_; rintro e w1 ⟨g, W, gr, R, bs, rfl, hP1, hbl, hW, hb1⟩)
  have hS1 := hP1.set
  have HBy := Lib.hid (bytes_any g W bs w1 hS1 (HT.out.below hb1))
  have hsl := setBytes_len bs (by omega)
  have HRd : Hid (∀ w' q, RdOk w' q (setBytes bs) → Calls Tryd.prog 33 #[.pointer (some ⟨q, 0, none⟩)] w' fun e w'' => ∃ gs Ws, e = .returned (.pointer (some ⟨gs, 0, none⟩)) ∧ SetAt w'' gs Ws bs ∧ RdOk w'' q [] ∧ w'.grownBy w'' (some q)) := fun w' q h => bread_any q bs w' h (by omega)
  generalize setBytes bs = sb at HBy hsl HRd
  clear hP1 HMd
  go_upto_region 4 with (first
    | (go_at_call 31; refine HBy.out.mono ?_; rintro e w2 ⟨v, rfl, ho, hb2⟩; obtain ⟨A1, c1, rfl, hl1, hA1⟩ := ho.form)
    | (go_at_call 32; refine (readok A1 c1 sb w2 (by omega) hA1 (RB.of_own ho)).mono ?_; rintro e w3 ⟨q, rfl, hq, hqw, hb3⟩)
    | (go_at_call 33; refine (HRd.out _ _ hq).mono ?_; rintro e w4 ⟨gs, Ws, rfl, hS4, hq4, hg4⟩))
  have hS3 := (hS1.below hb2).below hb3
  have hg1 := (hS1.below hb2).glt
  have hSs : SetAt w4 g W bs := hS3.blocks (hg4.block _ hS3.glt (by intro e; injection e; omega)) (hg4.block _ (Nat.lt_trans hS3.lt hS3.glt) (by intro e; have := hS3.lt; injection e; omega))
  have hb03 := (hb1.trans (hb2.mono hb1.size)).trans (hb3.mono (hb1.trans (hb2.mono hb1.size)).size)
  have hb04 : Below w.heap.size w w4 := hb03.grown hg4 hb03.size (by intro k hk; injection hk with hk; have := (hb1.trans (hb2.mono hb1.size)).size; omega)
  have hT4 := HT.out.below hb04
  have h44 : Below w4.heap.size w4 w4 := Below.refl _ _
  have hll : (idx bs 0).length ≤ 65536 := Nat.le_trans (idx_len_le bs 0) (by omega)
  have HEn := Lib.hid (end_ok q w4 hq4)
  have HSt := Lib.hid (size_any gs Ws bs w4 hS4)
  have HSs := Lib.hid (size_any g W bs w4 hSs)
  have HLt := Lib.hid (list_any gs Ws bs w4 hS4 hT4)
  have HLs := Lib.hid (fun w' (hb : Below w4.heap.size w4 w') => list_any g W bs w' (hSs.below hb) (hT4.below hb))
  have HAw := Lib.hid (fun w' (hb : Below w4.heap.size w4 w') => awake_any w' (hT4.below hb))
  generalize idx bs 0 = l2 at HLt HLs hll
  clear hS1 HBy HRd ho hq hS4 hq4 hg4 hS3 hSs hT4 hb1 hb2 hb3
  go_wp2_with (first
    | (go_at_call 34; refine HEn.out.mono ?_; rintro e w' ⟨rfl, rfl⟩)
    | (go_at_call 11; refine HSt.out.mono ?_; rintro e w' ⟨rfl, rfl⟩; clear HSt)
    | (go_at_call 11; refine HSs.out.mono ?_; rintro e w' ⟨rfl, rfl⟩; clear HSs)
    | (go_at_call 29; refine HLt.out.mono ?_; rintro e w5 ⟨v5, rfl, ho5, hb5⟩; obtain ⟨A5, c5, rfl, hl5, hA5⟩ := ho5.form; clear HLt)
    | (go_at_call 29; refine (HLs.out _ hb5).mono ?_; rintro e w6 ⟨v6, rfl, ho6, hl6b⟩; obtain ⟨A6, c6, rfl, hl6, hA6⟩ := ho6.form; have hb6 := hb5.trans (hl6b.mono hb5.size); have HEq := Lib.hid (iequal_any A5 A6 c5 c6 l2 w6 hl5 hl6 ((Lies.of_own ho5).below hl6b) (Lies.of_own ho6) hll); clear HLs)
    | (go_at_call 35; refine HEq.out.mono ?_; rintro e w7 ⟨rfl, hl7⟩; have hb7 := hb6.trans (hl7.mono hb6.size))
    | (go_at_call 15; refine (HAw.out _ hb7).mono ?_; rintro e w8 ⟨rfl, hl8⟩; have hb8 := hb7.trans (hl8.mono hb7.size)))
  go_ret
  exact ⟨rfl, hb04.trans (hb8.mono hb04.size)⟩
end Go.Proofs.YtopgikjmeebgbaaDoor
