/- The example: the walk. -/
import Derived.Test.YtjfpanamkkdebaaMaK
import Derived.Lib.SlBytesConst
namespace Go.Proofs.Ytjfpanamkkdebaa
open Go.RowKit
set_option linter.unusedVariables false
set_option linter.unusedSimpArgs false
theorem nil_lies (w : World) : Lies w none (([] : List Int).map (Value.int .i64)) := fun k v hk => by simp at hk
theorem append_lit (l g k m c : Nat) (q : Option Nat) (L : Lg) (b : List UInt8) (w : World) (h : JLog w l g k m c q L) (hf : L.Fit) (cells : Array Value) (hc : cells = (b.map vb).toArray) (t : TypeId) (f : Nat × Nat) (n : Nat) (hn : n = b.length) (hm : b.length ≤ 9223372036854775807) :
    Calls Try.prog 21 #[.pointer (some ⟨l, 0, none⟩), .slice (some ⟨w.heap.size, 0, none⟩) n n] (w.alloc (.cells cells t f)) fun e w' => e = .returned (.tuple #[.int .i64 (appendP L b).1, .int .i64 (appendP L b).2.1]) ∧
      (∃ q', JLog w' l g k m c q' (appendP L b).2.2 ∧ (q' = q ∨ ∃ j, q' = some j ∧ w.heap.size ≤ j)) ∧ Only w w' ([l, g, m] ++ q.toList) := by
  subst hn
  subst hc
  have hb : Below w.heap.size w (w.alloc (.cells (b.map vb).toArray t f)) := (Below.refl _ _).alloc (Nat.le_refl _) _
  refine (append_any l g k m c q L (some ⟨w.heap.size, 0, none⟩) b.length b _ (h.below hb) hf (Lies.new w t (b.map vb) f) (fun e => by cases e) (Nat.le_refl _) hm ?_).mono ?_
  · intro a ha _
    injection ha with ha
    subst ha
    have h1 := h.lt
    have h2 := h.dk.lt
    simp
    omega
  · rintro e w' ⟨he, ⟨q', hj, hq⟩, ho⟩
    exact ⟨he, ⟨q', hj, hq.imp id (fun ⟨j, h1, h2⟩ => ⟨j, h1, Nat.le_trans hb.size h2⟩)⟩, (Only.of_below hb _).trans ho⟩
set_option maxRecDepth 100000 in
set_option maxHeartbeats 3200000 in
theorem jawake_any (w : World) : Calls Try.prog 13 #[] w fun e w' => e = .returned (.bool true) ∧ Below w.heap.size w w' := by
  have HN := Lib.hid (new_any 20 w (by decide) (by decide))
  have kc := fun (w : World) (C : Array Value) (n c : Nat) => Lib.run_convert_bytes_const (P := Try.prog) w 29 5 C n c Try.underlying29 Try.underlying5
  go_enter Try.func13, Try.ntmps13
  go_wp2_with (go_at_call 9; refine HN.out.mono ?_; rintro e w1 ⟨g, k, m, rfl, hd1, hb1, g1, g2, g3⟩)
  have hbA : Below w1.heap.size w1 (w1.alloc (.cells #[.int .u8 115] 5 (1, 2))) := (Below.refl _ _).alloc (Nat.le_refl _) _
  refine (format_log g k m 20 (fresh 20) (some ⟨w1.heap.size, 0, none⟩) 1 [115] _ (hd1.below hbA) (Lies.new w1 5 [.int .u8 115] (1, 2)) (fun e => by cases e) (by decide) (by decide)).mono ?_
  rintro e w2 ⟨pv, rfl, hd2, ho2, h2⟩
  rcases h2 with ⟨hne, _⟩ | ⟨h0, x, rfl, hx, hj2⟩
  · exact absurd aw1.1 hne
  rw [h0]
  have hj2 : JLog w2 x g k m 20 none awL0 := hj2
  have hoW2 : Only w w2 [g, k, m] := (Only.of_below (hb1.trans (hbA.mono hb1.size)) _).trans ho2
  have hxg : w.heap.size ≤ x := Nat.le_trans (Nat.le_trans hb1.size hbA.size) hx
  go_wp2_with fail
  refine (append_lit x g k m 20 none awL0 [97] w2 hj2 aw3.1 _ rfl _ _ 1 rfl (by decide)).mono ?_
  rintro e w3 ⟨rfl, ⟨q3, hj3, hq3⟩, ho3⟩
  have hj3 : JLog w3 x g k m 20 q3 awL1 := hj3
  generalize (appendP awL0 [97]).1 = u1
  generalize (appendP awL0 [97]).2.1 = u2
  go_wp2_with fail
  refine (lsync_any x g k m 20 q3 awL1 w3 hj3 aw3.2.1).mono ?_
  rintro e w4 ⟨rfl, hj4, ho4⟩
  rw [aw1.2]
  have hj4 : JLog w4 x g k m 20 q3 awL2 := hj4
  go_wp2_with fail
  refine (append_lit x g k m 20 q3 awL2 [98] w4 hj4 aw3.2.2 _ rfl _ _ 1 rfl (by decide)).mono ?_
  rintro e w5 ⟨rfl, ⟨q5, hj5, hq5⟩, ho5⟩
  have hd5 : DkAt w5 g k m 20 awL3.d := hj5.dk
  generalize (appendP awL2 [98]).1 = u3
  generalize (appendP awL2 [98]).2.1 = u4
  go_wp2_with fail
  refine (crash_any g k m 20 awL3.d none 0 [] (-1) 0 w5 hd5 (nil_lies w5) (fun a ha _ => by cases ha) (by decide)).mono ?_
  rintro e w6 ⟨rfl, hd6, ho6⟩
  have hd6 : DkAt w6 g k m 20 awD := hd6
  go_wp2_with fail
  refine (open_log g k m 20 awD w6 hd6).mono ?_
  rintro e w7 ⟨pv, rfl, hd7, ho7, h7⟩
  rcases h7 with ⟨hne, _⟩ | ⟨h0', y, q7, rfl, hy, hj7, _, hq7⟩
  · exact absurd aw2.1 hne
  rw [h0']
  have hrec : (openLg awD).recs = [[97]] := by unfold openLg; dsimp only; rw [aw2.2]; rfl
  have hsnap : (openLg awD).snap = [115] := by unfold openLg; dsimp only; rw [aw2.2]; rfl
  have hs2 := hoW2.size
  have hs3 := ho3.size
  have hs4 := ho4.size
  have hoE : Only w w7 ([x, g, k, m] ++ q3.toList) := by
    have e2 := hoW2.mono (T := [x, g, k, m] ++ q3.toList) (by intro i hi; simp at hi ⊢; omega)
    have e3 := ho3.mono (T := [x, g, k, m] ++ q3.toList) (by intro i hi; simp at hi ⊢; omega)
    have e4 := ho4.mono (T := [x, g, k, m] ++ q3.toList) (by intro i hi; simp at hi ⊢; omega)
    have e5 := ho5.mono (T := [x, g, k, m] ++ q3.toList) (by intro i hi; simp at hi ⊢; rcases hi with h | h | h | h <;> simp [h])
    have e6 := ho6.mono (T := [x, g, k, m] ++ q3.toList) (by intro i hi; simp at hi ⊢; omega)
    have e7 := ho7.mono (T := [x, g, k, m] ++ q3.toList) (by intro i hi; simp at hi ⊢; omega)
    exact ((((e2.trans e3).trans e4).trans e5).trans e6).trans e7
  have hbE : Below w.heap.size w w7 := hoE.below (by
    intro i hi
    simp at hi
    rcases hi with rfl | rfl | rfl | rfl | hi
    · exact hxg
    · exact g1
    · exact g2
    · exact g3
    · rcases hq3 with rfl | ⟨j, rfl, hj⟩
      · cases hi
      · injection hi with hi; omega) (Nat.le_refl _)
  have HBE := Lib.hid hbE
  have HRec := Lib.hid (fun W (hb : Below w7.heap.size w7 W) => records_any y g k m 20 q7 (openLg awD) W (hj7.below hb) (by rw [hrec]; decide) (by rw [hrec]; decide))
  have HSnp := Lib.hid (fun W (hb : Below w7.heap.size w7 W) => snapshot_any y g k m 20 q7 (openLg awD) W (hj7.below hb) (by rw [hsnap]; decide))
  rw [hrec] at HRec
  rw [hsnap] at HSnp
  clear hd1 hb1 hbA hd2 ho2 hj2 hoW2 hj3 ho3 hj4 ho4 hj5 ho5 hd5 hd6 ho6 hd7 ho7 hj7 hq7 hoE hbE HN hrec hsnap hq3 hq5 hs2 hs3 hs4 kc
  go_wp2_with fail
  refine (HRec.out w7 (Below.refl _ _)).mono ?_
  rintro e w8 ⟨v8, rs, rfl, hown8, hok8, hrs8, hb8⟩
  obtain ⟨r, rfl⟩ : ∃ r, rs = [r] := by
    have : rs.length = 1 := by have := congrArg List.length hrs8; simpa using this
    exact List.length_eq_one_iff.1 this
  obtain ⟨g8, c8, rfl, hg8, hc8⟩ := own_pos hown8 (by simp)
  have HB8 := Lib.hid hb8
  simp only [List.length_singleton] at hc8 ⊢
  clear hown8 hok8 hrs8 hb8
  go_wp2_with fail
  refine (HRec.out w8 HB8.out).mono ?_
  rintro e w9 ⟨v9, rs, rfl, hown9, hok9, hrs9, hb9⟩
  obtain ⟨r9, rfl⟩ : ∃ r, rs = [r] := by
    have : rs.length = 1 := by have := congrArg List.length hrs9; simpa using this
    exact List.length_eq_one_iff.1 this
  obtain ⟨rA, rc, rb⟩ := r9
  have hrb : rb = [97] := by simpa using hrs9
  subst hrb
  obtain ⟨g9, c9, rfl, hg9, hc9⟩ := own_pos hown9 (by simp)
  have hcell : w9.cell? ⟨g9, 0, none⟩ = some (.slice rA 1 rc) := World.ownsRow.cellAt hown9 0 (by simp)
  have hob := hok9 _ (List.mem_singleton.2 rfl)
  have kc1 := RB.str (P := Try.prog) (w := w9) (src := 29) (dst := 9) Try.underlying29 Try.underlying5 Try.underlying9 (RB.of_own hob) 1 rc rfl
  have hs1 : str [97] = ⟨#[97]⟩ := rfl
  rw [hs1] at kc1
  have HB9 := Lib.hid (HB8.out.trans (hb9.mono HB8.out.size))
  simp only [List.length_singleton] at hc9 ⊢
  have hc91 : (1 : Int) ≤ (c9 : Int) := by omega
  clear hown9 hok9 hrs9 hb9 hob
  go_wp2_with fail
  refine (HSnp.out w9 HB9.out).mono ?_
  rintro e wA ⟨vA, rfl, hoA, hbA⟩
  obtain ⟨AA, cA, rfl, hlA, hAA⟩ := OB.form hoA
  have kc2 := RB.str (P := Try.prog) (w := wA) (src := 29) (dst := 9) Try.underlying29 Try.underlying5 Try.underlying9 (RB.of_own hoA) 1 cA rfl
  have hs2 : str [115] = ⟨#[115]⟩ := rfl
  rw [hs2] at kc2
  have HBA := Lib.hid (HB9.out.trans (hbA.mono HB9.out.size))
  simp only [List.length_singleton] at hlA ⊢
  clear hoA hbA kc1 hcell
  go_wp2_with fail
  go_ret
  exact ⟨rfl, HBE.out.trans (HBA.out.mono HBE.out.size)⟩
end Go.Proofs.Ytjfpanamkkdebaa
