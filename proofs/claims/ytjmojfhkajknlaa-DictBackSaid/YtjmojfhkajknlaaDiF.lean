/- The walk of Build. -/
import Derived.Test.YtjmojfhkajknlaaDiD
import Derived.Test.YtjmojfhkajknlaaDiE
namespace Go.Proofs.Ytjmojfhkajknlaa
open Go.RowKit
set_option linter.unusedVariables false
set_option linter.unusedSimpArgs false
/-- The words of a slice of texts. -/
def wl (ws : List ByteArray) : List (List UInt8) := ws.map by8
theorem wl_length (ws : List ByteArray) : (wl ws).length = ws.length := by simp [wl]
theorem wl_take (ws : List ByteArray) (j : Nat) : (wl ws).take j = wl (ws.take j) := by simp [wl]
theorem wl_snoc {ws : List ByteArray} {j : Nat} (hj : j < ws.length) : wl (ws.take (j + 1)) = wl (ws.take j) ++ [by8 ws[j]] := by
  unfold wl; rw [List.take_succ_eq_append_getElem hj, List.map_append]; rfl
/-- Why there is no dictionary; 0: there is one. -/
def whyNot (l : List (List UInt8)) : Nat := if 16384 < l.length then 5 else if chk [] l = true then 0 else 1
theorem add_any (g : Nat) (vH vB : Value) (l : List (List UInt8)) (s last : ByteArray) (w : World) (h : DAt w g vH vB l) (hm : l.length < 16384) (hs : s.size ≤ 64) (hx : ∀ x ∈ l, x.length ≤ 64) (hla : by8 last = lastW [] l) :
    Calls Try.prog 25 #[.pointer (some ⟨g, 0, none⟩), .string s, .string last, .int .i64 l.length] w fun e w' => e = .returned (.tuple #[]) ∧ ∃ vH' vB', DAt w' g vH' vB' (l ++ [by8 s]) ∧ Below g w w' := by
  by_cases hl : l.length % 4 = 0
  · exact add_new g vH vB l s last w h hl hm
  · exact add_old g vH vB l s last w h hl hm hs hx hla
/-- What Build leaves. -/
def Built (w : World) (l : List (List UInt8)) (e : Ending) (w' : World) : Prop :=
  Below w.heap.size w w' ∧ ((whyNot l = 0 ∧ ∃ g vH vB, e = .returned (.tuple #[.pointer (some ⟨g, 0, none⟩), .int .i64 0]) ∧ DAt w' g vH vB l ∧ w.heap.size ≤ g) ∨ (whyNot l ≠ 0 ∧ e = .returned (.tuple #[.pointer none, .int .i64 (whyNot l)])))
set_option maxHeartbeats 3200000 in
theorem build_any (A : Option Addr) (c : Nat) (ws : List ByteArray) (w : World) (hr : Lies w A (ws.map Value.string)) (hm : ws.length ≤ 9223372036854775807) :
    Calls Try.prog 9 #[.slice A ws.length c] w fun e w' => Built w (wl ws) e w' := by
  by_cases h5 : 16384 < ws.length
  · have hq : (ws.length : Int) > 16384 := by omega
    go_enter Try.func9, Try.ntmps9
    go_wp2
    go_ret2
    have e5 : whyNot (wl ws) = 5 := by unfold whyNot; rw [wl_length, if_pos h5]
    exact ⟨Below.refl _ _, .inr ⟨by rw [e5]; decide, by rw [e5]; rfl⟩⟩
  have hq : ¬ ((ws.length : Int) > 16384) := by omega
  have HR := Lib.hid hr
  clear hr
  go_enter Try.func9, Try.ntmps9
  go_wp2
  have hdn : DAt (w.alloc (.cells #[.int .i64 0, .slice none 0 0, .slice none 0 0] 51)) w.heap.size (.slice none 0 0) (.slice none 0 0) [] :=
    ⟨heap_alloc_new w _, World.ownsRow_nil _ _ _ _, World.ownsRow_nil _ _ _ _, fun k e => by cases e⟩
  have hb0 : Below w.heap.size w (w.alloc (.cells #[.int .i64 0, .slice none 0 0, .slice none 0 0] 51)) := (Below.refl _ _).alloc (Nat.le_refl _) _
  go_loopg [5, 6, 7, 15] ws.length (fun r s5 s6 s7 i wr => ∃ (j : Nat) (last : ByteArray) (vH vB : Value), j + r = ws.length ∧ i = .int .i64 j ∧ s5 = .string last ∧ Hid (by8 last = lastW [] (wl (ws.take j))) ∧ Hid (chk [] (wl (ws.take j)) = true) ∧ DAt wr w.heap.size vH vB (wl (ws.take j)) ∧ Below w.heap.size w wr)
  case atStart => exact ⟨0, _, _, _, by omega, rfl, rfl, Lib.hid rfl, Lib.hid rfl, hdn, hb0⟩
  case round =>
    clear hdn hb0
    obtain ⟨j, last, vH, vB, hj, rfl, rfl, hla, hck, hd, hb⟩ := hrel
    by_cases hjn : j < ws.length
    · obtain ⟨a, rfl, hc⟩ := (HR.out.below hb).at (k := j) (by simpa using hjn)
      rw [List.getElem_map] at hc
      have HW := Lib.hid (wl_snoc hjn)
      have hltt : (wl (ws.take j)).length = j := by rw [wl_length, List.length_take]; omega
      have HNo : Hid (fitsB (by8 last) (by8 ws[j]) = false → chk [] (wl ws) = false) := by
        intro h
        have e := chk_append (wl (ws.take (j + 1))) ((wl ws).drop (j + 1)) []
        rw [← wl_take, List.take_append_drop, wl_take, HW.out, chk_append] at e
        rw [e, ← hla.out, chk, h]; simp
      have HYes : Hid (fitsB (by8 last) (by8 ws[j]) = true → chk [] (wl (ws.take (j + 1))) = true) := by
        intro h
        rw [HW.out, chk_append, hck.out, ← hla.out, chk, h]; rfl
      have hxl := chk_len hck.out
      generalize ws[j] = s at hc HW HNo HYes
      have hle : (Op.bytesLess s.toList last.toList || s.toList == last.toList) = !Op.bytesLess (by8 last) (by8 s) := by
        rw [by8_to, by8_to]; exact le8_iff
      have HE5 : Hid (whyNot (wl ws) = if chk [] (wl ws) = true then 0 else 1) := by show _ = _; unfold whyNot; rw [wl_length, if_neg h5]
      by_cases hf : Op.bytesLess (by8 last) (by8 s) = true
      · rw [hf] at hle
        by_cases hs : s.size ≤ 64
        · have hfit : fitsB (by8 last) (by8 s) = true := by
            unfold fitsB
            rw [hf, by8_size, decide_eq_true hs]; rfl
          have HA := Lib.hid (add_any w.heap.size vH vB _ s last wr hd (by omega) hs hxl hla.out)
          rw [hltt] at HA
          have hs64 : ¬ ((s.size : Int) > 64) := by omega
          have hq2 : decide ((s.size : Int) > 64) = false := decide_eq_false hs64
          have HS := Lib.hid (HYes.out hfit)
          clear HNo HYes hxl hfit hf hla hck hd
          go_wp2_with fail
          refine HA.out.mono ?_
          rintro e w2 ⟨rfl, vH2, vB2, hd2, hb2⟩
          clear HA
          go_wp2
          go_roundg (ws.length - (j + 1))
          case measure => omega
          case rel => exact ⟨j + 1, s, vH2, vB2, by omega, by go_num, rfl, Lib.hid (by rw [HW.out, lastW_snoc]), HS, by rw [HW.out]; exact hd2, hb.trans hb2⟩
        · have hfit : fitsB (by8 last) (by8 s) = false := by
            unfold fitsB
            rw [hf, by8_size, decide_eq_false hs]; rfl
          have hs64 : (s.size : Int) > 64 := by omega
          have hq2 : decide ((s.size : Int) > 64) = true := decide_eq_true hs64
          have HE : Hid (whyNot (wl ws) = 1) := by show _ = _; rw [HE5.out, HNo.out hfit]; rfl
          clear HNo HYes hxl hfit hf hla hck hd
          go_wp2
          go_ret2
          exact ⟨hb, .inr ⟨by rw [HE.out]; decide, by rw [HE.out]; rfl⟩⟩
      · have hf := Bool.eq_false_iff.2 hf
        rw [hf] at hle
        have hfit : fitsB (by8 last) (by8 s) = false := by
          unfold fitsB
          rw [hf]; rfl
        have HE : Hid (whyNot (wl ws) = 1) := by show _ = _; rw [HE5.out, HNo.out hfit]; rfl
        clear HNo HYes hxl hfit hf hla hck hd
        go_wp2
        go_ret2
        exact ⟨hb, .inr ⟨by rw [HE.out]; decide, by rw [HE.out]; rfl⟩⟩
    · obtain rfl : j = ws.length := by omega
      rw [List.take_length] at hd hck
      have HE : Hid (whyNot (wl ws) = 0) := by show _ = _; unfold whyNot; rw [wl_length, if_neg h5, if_pos hck.out]
      clear hla hck
      go_wp2
      go_ret2
      exact ⟨hb, .inl ⟨HE.out, _, _, _, rfl, hd, Nat.le_refl _⟩⟩
end Go.Proofs.Ytjmojfhkajknlaa
