/- Where a word stands in a dictionary: the walks of the searches. -/
import Derived.Test.YtjmojfhkajknlaaDiP
import Derived.Test.YtjmojfhkajknlaaDiM
namespace Go.Proofs.Ytjmojfhkajknlaa
open Go.RowKit
set_option linter.unusedVariables false
set_option linter.unusedSimpArgs false
theorem getD_at {α : Type} (l : List α) (i : Nat) (d : α) (h : i < l.length) : l.getD i d = l[i] := by
  rw [List.getD_eq_getElem?_getD, List.getElem?_eq_getElem h]; rfl
/-- Texts in their boxes: the test of a search by a slice of texts. -/
theorem sclos_any (ba bx : Nat) (A : Option Addr) (c : Nat) (l : List (List UInt8)) (s : ByteArray) (i : Nat) (W : World) (hi : i < l.length)
    (ha : W.cell? ⟨ba, 0, none⟩ = some (.slice A l.length c)) (hx : W.cell? ⟨bx, 0, none⟩ = some (.string s)) (hL : Lies W A (l.map vs)) (hm : l.length ≤ 1000000) :
    Calls Try.prog 41 #[.int .i64 i, .pointer (some ⟨ba, 0, none⟩), .pointer (some ⟨bx, 0, none⟩)] W fun e w' => e = .returned (.bool (!lessP (by8 s) (l.getD i []))) ∧ Below W.heap.size W w' := by
  obtain ⟨a, rfl, hc⟩ := hL.at (k := i) (by simpa using hi)
  rw [List.getElem_map] at hc
  rw [getD_at l i [] hi]
  generalize l[i] = y at hc ⊢
  unfold vs at hc
  have hv : Hid ((!Op.bytesLess (str y).toList s.toList) = !lessP (by8 s) y) := by show _ = _; rw [str_toList', by8_to]; rfl
  have h0 : (0 : Int) ≤ (i : Int) := by omega
  have h1 : (i : Int) < (l.length : Int) := by omega
  clear hL
  go_enter Try.func41, Try.ntmps41
  go_wp2_with fail
  go_quiet (fail)
  go_wp2
  go_ret
  rw [← hv.out]
  exact ⟨by simp, below_drewN (Below.refl _ _) _⟩
theorem hclos_any (bd bx g : Nat) (l : List (List UInt8)) (s : ByteArray) (i : Nat) (W : World) (hd : DOk W g l) (hi : i < (headsL l).length)
    (ha : W.cell? ⟨bd, 0, none⟩ = some (.pointer (some ⟨g, 0, none⟩))) (hx : W.cell? ⟨bx, 0, none⟩ = some (.string s)) (hm : l.length ≤ 16384) :
    Calls Try.prog 34 #[.int .i64 i, .pointer (some ⟨bd, 0, none⟩), .pointer (some ⟨bx, 0, none⟩)] W fun e w' => e = .returned (.bool (!atMost (by8 s) ((headsL l).getD i []))) ∧ Below W.heap.size W w' := by
  obtain ⟨A, c, B, d, h1, h2, h3⟩ := hd
  have k1 : W.cell? ⟨g, 1, none⟩ = some (.slice A (nblk l.length) c) := blk_cell h1
  obtain ⟨a, rfl, hc⟩ := h2.at (k := i) (by simpa using hi)
  rw [List.getElem_map] at hc
  rw [getD_at _ i [] hi]
  rw [headsL_length] at hi
  generalize (headsL l)[i] = y at hc ⊢
  unfold vs at hc
  have hv : Hid ((!(Op.bytesLess (str y).toList s.toList || (str y).toList == s.toList)) = !atMost (by8 s) y) := by show _ = _; rw [str_toList', by8_to]; rfl
  have hnb : nblk l.length ≤ 16384 := by unfold nblk; omega
  generalize nblk l.length = nb at hi k1 hnb
  have h0 : (0 : Int) ≤ (i : Int) := by omega
  have h1' : (i : Int) < (nb : Int) := by omega
  clear h1 h2 h3
  go_enter Try.func34, Try.ntmps34
  go_wp2_with fail
  go_quiet (fail)
  go_wp2
  go_ret
  rw [← hv.out]
  exact ⟨by simp, below_drewN (Below.refl _ _) _⟩
set_option maxHeartbeats 1600000 in
theorem ssearch_any (A : Option Addr) (c : Nat) (l : List (List UInt8)) (s : ByteArray) (r : Nat) (w : World) (hL : Lies w A (l.map vs)) (hr : Bnd l (lessP (by8 s)) r) (hm : l.length ≤ 1000000) :
    Calls Try.prog 35 #[.slice A l.length c, .string s] w fun e w' => e = .returned (.int .i64 r) ∧ Below w.heap.size w w' := by
  have b0 := ((Below.refl w.heap.size w).alloc (Nat.le_refl _) (.cells #[.slice A l.length c] 22)).alloc (by simp) (.cells #[.string s] 9)
  have ca : ((w.alloc (.cells #[.slice A l.length c] 22)).alloc (.cells #[.string s] 9)).cell? ⟨w.heap.size, 0, none⟩ = some (.slice A l.length c) := tmp_under _ _ _ _
  have cx : ((w.alloc (.cells #[.slice A l.length c] 22)).alloc (.cells #[.string s] 9)).cell? ⟨w.heap.size + 1, 0, none⟩ = some (.string s) := tmp_next _ _ _ _
  have hL2 := hL.below b0
  have hla := World.block_lt_of_cell? _ _ ca
  have hlx := World.block_lt_of_cell? _ _ cx
  have HS := Lib.hid (search_any 41 #[.pointer (some ⟨w.heap.size, 0, none⟩), .pointer (some ⟨w.heap.size + 1, 0, none⟩)] l.length r (fun i => !lessP (by8 s) (l.getD i [])) _ (fun args w => enters_of Try.func41 (by kernel_rfl) rfl args w) (by omega)
    (fun w' i hb hi => sclos_any w.heap.size (w.heap.size + 1) A c l s i w' hi ((hb.cell (p := ⟨w.heap.size, 0, none⟩) hla).trans ca) ((hb.cell (p := ⟨w.heap.size + 1, 0, none⟩) hlx).trans cx) (hL2.below hb) hm)
    hr.le (fun t ht => by have := hr.le; rw [getD_at l t [] (by omega), hr.yes t (by omega) ht]; rfl) (fun t h1 h2 => by rw [getD_at l t [] h2, hr.no t h2 h1]; rfl))
  have B0 := Lib.hid b0
  have hs0 : w.heap.size ≤ ((w.alloc (.cells #[.slice A l.length c] 22)).alloc (.cells #[.string s] 9)).heap.size := b0.size
  clear b0 hL hL2 hr hla hlx cx
  have hm3 : l.length ≤ 9223372036854775807 := by omega
  go_enter Try.func35, Try.ntmps35
  go_wp2_with (go_at_call 33; refine HS.out.mono ?_; rintro e w' ⟨rfl, hb⟩)
  go_ret
  exact ⟨rfl, B0.out.trans (hb.mono hs0)⟩
end Go.Proofs.Ytjmojfhkajknlaa
