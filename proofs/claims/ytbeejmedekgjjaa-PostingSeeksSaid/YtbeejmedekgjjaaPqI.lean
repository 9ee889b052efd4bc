/- The example. -/
import Derived.Test.YtbeejmedekgjjaaPoG
namespace Go.Proofs.Ytbeejmedekgjjaa
open Go.RowKit
set_option linter.unusedVariables false
set_option linter.unusedSimpArgs false
theorem enc_example : encB [⟨2, [(1, [0, 3])]⟩] = [1, 2, 6, 2, 1, 1, 2, 0, 2] := by decide +kernel
theorem chk_example : chkB [⟨2, [(1, [0, 3])]⟩] = true := by decide +kernel
theorem pawake_any (w : World) : Calls Try.prog 7 #[] w fun e w' => e = .returned (.bool true) ∧ Below w.heap.size w w' := by
  obtain ⟨w1, hw1⟩ : ∃ w1, w.alloc (.cells #[.int .i64 0, .int .i64 3] 3) = w1 := ⟨_, rfl⟩
  have hb1 : Below w.heap.size w w1 := by rw [← hw1]; exact (Below.refl _ _).alloc (Nat.le_refl _) _
  have h1 : w1.heap[w.heap.size]? = some (.cells #[.int .i64 0, .int .i64 3] 3 (0, 0)) := by rw [← hw1]; exact heap_alloc_new _ _
  go_enter Try.func7, Try.ntmps7
  go_wp2_with fail
  have hb2 : Below w1.heap.size w1 (w1.alloc (.cells #[.int .i64 1, .slice (some ⟨w.heap.size, 0, none⟩) 2 2] 46)) := (Below.refl _ _).alloc (Nat.le_refl _) _
  have hb3 : Below (w1.alloc (.cells #[.int .i64 1, .slice (some ⟨w.heap.size, 0, none⟩) 2 2] 46)).heap.size (w1.alloc (.cells #[.int .i64 1, .slice (some ⟨w.heap.size, 0, none⟩) 2 2] 46)) ((w1.alloc (.cells #[.int .i64 1, .slice (some ⟨w.heap.size, 0, none⟩) 2 2] 46)).alloc (.cells #[.int .i64 2, .slice (some ⟨w1.heap.size, 0, none⟩) 1 1] 40)) := (Below.refl _ _).alloc (Nat.le_refl _) _
  have hs2 : (w1.alloc (.cells #[.int .i64 1, .slice (some ⟨w.heap.size, 0, none⟩) 2 2] 46)).heap.size = w1.heap.size + 1 := by simp
  have l1 : Lies w1 (some ⟨w.heap.size, 0, none⟩) ([0, 3].map (Value.int .i64)) := by rw [← hw1]; exact Lies.new w 3 _ (0, 0)
  have l2 : Lies (w1.alloc (.cells #[.int .i64 1, .slice (some ⟨w.heap.size, 0, none⟩) 2 2] 46)) (some ⟨w1.heap.size, 0, none⟩) [.int .i64 1, .slice (some ⟨w.heap.size, 0, none⟩) 2 2] := Lies.new w1 46 _ (0, 0)
  have l3 : Lies ((w1.alloc (.cells #[.int .i64 1, .slice (some ⟨w.heap.size, 0, none⟩) 2 2] 46)).alloc (.cells #[.int .i64 2, .slice (some ⟨w1.heap.size, 0, none⟩) 1 1] 40)) (some ⟨w1.heap.size + 1, 0, none⟩) [.int .i64 2, .slice (some ⟨w1.heap.size, 0, none⟩) 1 1] := by rw [← hs2]; exact Lies.new (w1.alloc (.cells #[.int .i64 1, .slice (some ⟨w.heap.size, 0, none⟩) 2 2] 46)) 40 _ (0, 0)
  have hb13 : Below w1.heap.size w1 ((w1.alloc (.cells #[.int .i64 1, .slice (some ⟨w.heap.size, 0, none⟩) 2 2] 46)).alloc (.cells #[.int .i64 2, .slice (some ⟨w1.heap.size, 0, none⟩) 1 1] 40)) := hb2.trans (hb3.mono hb2.size)
  have hb03 : Below w.heap.size w ((w1.alloc (.cells #[.int .i64 1, .slice (some ⟨w.heap.size, 0, none⟩) 2 2] 46)).alloc (.cells #[.int .i64 2, .slice (some ⟨w1.heap.size, 0, none⟩) 1 1] 40)) := hb1.trans (hb13.mono hb1.size)
  have hp : Posts ((w1.alloc (.cells #[.int .i64 1, .slice (some ⟨w.heap.size, 0, none⟩) 2 2] 46)).alloc (.cells #[.int .i64 2, .slice (some ⟨w1.heap.size, 0, none⟩) 1 1] 40)) (some ⟨w1.heap.size + 1, 0, none⟩) 1 [⟨2, some ⟨w1.heap.size, 0, none⟩, 1, [⟨1, some ⟨w.heap.size, 0, none⟩, 2, [0, 3]⟩]⟩] := by
    refine ⟨l3, fun p hp => ?_, Nat.le_refl _, by show (1 : Nat) ≤ 9223372036854775807; decide⟩
    cases List.mem_singleton.1 hp
    refine ⟨l2.below hb3, Nat.le_refl _, by show (1 : Nat) ≤ 9223372036854775807; decide, fun s hs => ?_, by show I64 2; unfold I64; decide⟩
    cases List.mem_singleton.1 hs
    refine ⟨l1.below hb13, Nat.le_refl _, by show (2 : Nat) ≤ 9223372036854775807; decide, fun z hz => ?_, by show I64 1; unfold I64; decide⟩
    simp at hz
    unfold I64
    omega
  have HE := encode_ok _ 1 _ _ hp chk_example
  have e1 : encB ([(⟨2, some ⟨w1.heap.size, 0, none⟩, 1, [⟨1, some ⟨w.heap.size, 0, none⟩, 2, [0, 3]⟩]⟩ : LPost)].map LPost.p) = [1, 2, 6, 2, 1, 1, 2, 0, 2] := enc_example
  rw [e1] at HE
  refine HE.mono ?_
  rintro e4 w4 ⟨v4, rfl, hv4, hb4⟩
  have hb04 := hb03.trans (hb4.mono hb03.size)
  clear HE e1 hp hb13 hb03 l1 l2 l3 hb2 hb3 hs2 h1 hw1 hb1
  generalize ((w1.alloc (.cells #[.int .i64 1, .slice (some ⟨w.heap.size, 0, none⟩) 2 2] 46)).alloc (.cells #[.int .i64 2, .slice (some ⟨w1.heap.size, 0, none⟩) 1 1] 40)) = w3 at hv4 hb4
  obtain ⟨A4, c4, rfl, hc4, hn4⟩ := hv4.form
  have l5 : RB (w4.alloc (.cells #[.int .u8 1, .int .u8 2, .int .u8 6, .int .u8 2, .int .u8 1, .int .u8 1, .int .u8 2, .int .u8 0, .int .u8 2] 5)) (some ⟨w4.heap.size, 0, none⟩) [1, 2, 6, 2, 1, 1, 2, 0, 2] := Lies.new w4 5 _ (0, 0)
  have r4 := (RB.of_own hv4).below ((Below.refl w4.heap.size w4).alloc (Nat.le_refl _) (.cells #[.int .u8 1, .int .u8 2, .int .u8 6, .int .u8 2, .int .u8 1, .int .u8 1, .int .u8 2, .int .u8 0, .int .u8 2] 5))
  have hb5 := hb04.alloc hb04.size (.cells #[.int .u8 1, .int .u8 2, .int .u8 6, .int .u8 2, .int .u8 1, .int .u8 1, .int .u8 2, .int .u8 0, .int .u8 2] 5)
  have HQ := equal_any A4 _ c4 9 [1, 2, 6, 2, 1, 1, 2, 0, 2] [1, 2, 6, 2, 1, 1, 2, 0, 2] _ r4 l5
  rw [beq_self_eq_true] at HQ
  have HQ := Lib.hid HQ
  clear r4 l5 hv4
  go_wp2_with (go_at_call 12; refine HQ.out.mono ?_; rintro e6 w6 ⟨rfl, rfl⟩)
  go_returns
  exact ⟨rfl, hb5⟩
end Go.Proofs.Ytbeejmedekgjjaa
