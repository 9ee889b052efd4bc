/- The walk of the law of a dictionary that no call made. -/
import Derived.Test.YtjmojfhkajknlaaDiM
namespace Go.Proofs.Ytjmojfhkajknlaa
open Go.RowKit
set_option linter.unusedVariables false
set_option linter.unusedSimpArgs false
set_option maxHeartbeats 3200000 in
theorem dictNobody_walk (i : Int) (s : ByteArray) (w : World) (_hi : (Lit.int .i64 i).wf = true) (_hs : s.size ≤ 140737488351232) :
    Calls Try.prog 6 #[.int .i64 i, .string s] w fun e w' => e = .returned (.bool true) ∧ Below w.heap.size w w' := by
  have HAw : Hid (∀ w', Below w.heap.size w w' → Calls Try.prog 8 #[] w' fun e w'' => e = .returned (.bool true) ∧ Below w.heap.size w w'') :=
    fun w' hb => (dawake_any w').mono fun e w'' ⟨h1, h2⟩ => ⟨h1, hb.trans (h2.mono hb.size)⟩
  clear _hi _hs
  go_enter Try.func6, Try.ntmps6
  go_wp2_with fail
  have e1 : (w.alloc (.cells #[.int .i64 0, .slice none 0 0, .slice none 0 0] 51)).heap.size = w.heap.size + 1 := by simp
  have hL : Lies ((w.alloc (.cells #[.int .i64 0, .slice none 0 0, .slice none 0 0] 51)).alloc (.cells #[.pointer none, .pointer (some ⟨w.heap.size, 0, none⟩)] 25)) (some ⟨w.heap.size + 1, 0, none⟩) [.pointer none, .pointer (some ⟨w.heap.size, 0, none⟩)] := by
    have := Lies.new (w.alloc (.cells #[.int .i64 0, .slice none 0 0, .slice none 0 0] 51)) 25 [.pointer none, .pointer (some ⟨w.heap.size, 0, none⟩)] (0, 0)
    rwa [e1] at this
  have hD : DOk ((w.alloc (.cells #[.int .i64 0, .slice none 0 0, .slice none 0 0] 51)).alloc (.cells #[.pointer none, .pointer (some ⟨w.heap.size, 0, none⟩)] 25)) w.heap.size [] :=
    ⟨none, 0, none, 0, blk_alloc (heap_alloc_new w _), Lies.nil _ _, Lies.nil _ _⟩
  have hb : Below w.heap.size w ((w.alloc (.cells #[.int .i64 0, .slice none 0 0, .slice none 0 0] 51)).alloc (.cells #[.pointer none, .pointer (some ⟨w.heap.size, 0, none⟩)] 25)) := ((Below.refl _ _).alloc (Nat.le_refl _) _).alloc (by simp) _
  clear e1
  go_loopg [17] (2 : Nat) (fun r x wr => ∃ j : Nat, j + r = 2 ∧ x = .int .i64 j ∧ Below w.heap.size w wr ∧ Lies wr (some ⟨w.heap.size + 1, 0, none⟩) [.pointer none, .pointer (some ⟨w.heap.size, 0, none⟩)] ∧ DOk wr w.heap.size [])
  case atStart => exact ⟨0, by omega, rfl, hb, hL, hD⟩
  case round =>
    clear hL hD hb
    obtain ⟨j, hj, rfl, hb, hL, hD⟩ := hrel
    by_cases hj2 : j < 2
    · obtain ⟨p, hc, hE⟩ : ∃ p, wr.cell? ⟨w.heap.size + 1, j, none⟩ = some (.pointer p) ∧ Emp wr p := by
        obtain ⟨a, ha, hc⟩ := hL.at (k := j) (by simpa using hj2)
        injection ha with ha
        subst ha
        rw [Addr.add_lit, Nat.zero_add] at hc
        rcases (by omega : j = 0 ∨ j = 1) with rfl | rfl
        · exact ⟨_, hc, .inl rfl⟩
        · exact ⟨_, hc, .inr ⟨_, rfl, hD⟩⟩
      have hL := Lib.hid hL
      have hj0 : (0 : Int) ≤ (j : Int) := by omega
      have hj1 : (j : Int) < 2 := by omega
      have HSk := Lib.hid (fun w' (hb' : Below wr.heap.size wr w') => emp_seek p s w' (hE.below hb'))
      have HRg := Lib.hid (fun w' (hb' : Below wr.heap.size wr w') => emp_range p s w' (hE.below hb'))
      have HLn := Lib.hid (fun w' (hb' : Below wr.heap.size wr w') => emp_len p w' (hE.below hb'))
      have HWd := Lib.hid (fun w' (hb' : Below wr.heap.size wr w') => emp_words p w' (hE.below hb'))
      have HBy := Lib.hid (fun w' (hb' : Below wr.heap.size wr w') => emp_bytes p w' (hE.below hb'))
      have HAt := Lib.hid (emp_at p i wr hE)
      have HL := Lib.hid hL.out
      have HD := Lib.hid hD
      have HEq : Hid (∀ w' A c, RB w' A [0] → Calls Try.prog 24 #[.slice A 1 c, .slice (some ⟨w'.heap.size, 0, none⟩) 1 1] (w'.alloc (.cells #[.int .u8 0] 5)) fun e w'' => e = .returned (.bool true) ∧ w'.alloc (.cells #[.int .u8 0] 5) = w'') := by
        intro w' A c hr
        exact equal_of A (some ⟨w'.heap.size, 0, none⟩) c 1 1 1 [0] [0] _ (hr.below ((Below.refl _ _).alloc (Nat.le_refl _) _)) (RB.new w' 5 [0] (0, 0)) rfl rfl (by decide)
      clear hE hL hD
      go_wp2_with (first
        | (go_at_call 11; refine HAt.out.mono ?_; rintro e w' ⟨rfl, rfl⟩)
        | (go_at_call 20; refine (HSk.out _ (Below.refl _ _)).mono ?_; rintro e w2 ⟨rfl, hb2⟩)
        | (go_at_call 22; refine (HRg.out _ hb2).mono ?_; rintro e w3 ⟨rfl, hb3⟩; have hb3 := hb2.trans (hb3.mono hb2.size))
        | (go_at_call 12; refine (HLn.out _ hb3).mono ?_; rintro e w' ⟨rfl, rfl⟩)
        | (go_at_call 14; refine (HWd.out _ hb3).mono ?_; rintro e w' ⟨rfl, rfl⟩)
        | (go_at_call 16; refine (HBy.out _ hb3).mono ?_; rintro e w4 ⟨v4, rfl, ho4, hb4⟩; have hb4 := hb3.trans (hb4.mono hb3.size); obtain ⟨A4, c4, rfl, hl4, hA4⟩ := ho4.form; have r4 := RB.of_own ho4)
        | (go_at_call 24; refine (HEq.out _ A4 c4 r4).mono ?_; rintro e w' ⟨rfl, rfl⟩))
      have hb5 := hb4.alloc hb4.size (.cells #[.int .u8 0] 5)
      go_roundg (2 - (j + 1))
      case measure => omega
      case rel => exact ⟨j + 1, by omega, by go_num, hb.trans (hb5.mono hb.size), HL.out.below hb5, HD.out.below hb5⟩
    · obtain rfl : j = 2 := by omega
      have HA2 := Lib.hid (HAw.out wr hb)
      clear hL hD
      go_wp2_with (go_at_call 8; refine HA2.out.mono ?_; rintro e w5 ⟨rfl, hb5⟩)
      go_ret
      exact ⟨rfl, hb5⟩
end Go.Proofs.Ytjmojfhkajknlaa
