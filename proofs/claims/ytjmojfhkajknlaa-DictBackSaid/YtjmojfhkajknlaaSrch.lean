/- sort.Search: the least place from which on a test holds. -/
import Derived.Test.YtjmojfhkajknlaaChecked
import Derived.Test.YtjmojfhkajknlaaLaws
import Derived.Deep.LoopGhost
import Derived.LoopTactic
import Derived.WalkLawsBesides
import Derived.Handy
import Derived.Shelf.Abstract
namespace Go.Proofs.Ytjmojfhkajknlaa
open Go.RowKit
set_option linter.unusedVariables false
set_option linter.unusedSimpArgs false
set_option maxHeartbeats 1600000 in
theorem search_any (g : Nat) (cb : Array Value) (n r : Nat) (p : Nat → Bool) (w : World) (eg : ∀ args w, (callFunc g args).run Try.prog w = .ok (.enter g args) w) (hn : n < 4611686018427387904)
    (hf : ∀ (w' : World) (i : Nat), Below w.heap.size w w' → i < n → Calls Try.prog g (#[.int .i64 i] ++ cb) w' fun e w'' => e = .returned (.bool (p i)) ∧ Below w'.heap.size w' w'')
    (hr : r ≤ n) (h0 : ∀ t, t < r → p t = false) (h1 : ∀ t, r ≤ t → t < n → p t = true) :
    Calls Try.prog 33 #[.int .i64 n, .func (.func g) #[] cb] w fun e w' => e = .returned (.int .i64 r) ∧ Below w.heap.size w w' := by
  have HF := Lib.hid hf
  have H0 := Lib.hid h0
  have H1 := Lib.hid h1
  clear hf h0 h1
  go_enter Try.func33, Try.ntmps33
  go_wp2
  go_loopg [5, 6] n (fun kx s5 s6 wr => ∃ (lo hi : Nat), s5 = .int .i64 lo ∧ s6 = .int .i64 hi ∧ lo ≤ r ∧ r ≤ hi ∧ hi ≤ n ∧ hi - lo ≤ kx ∧ Below w.heap.size w wr)
  case atStart => exact ⟨0, n, rfl, rfl, Nat.zero_le _, hr, Nat.le_refl _, by omega, Below.refl _ _⟩
  case round =>
    obtain ⟨lo, hi, rfl, rfl, hlr, hrh, hin, hg, hb⟩ := hrel
    by_cases hlt : lo < hi
    · have hc := HF.out wr ((lo + hi) / 2) hb (by omega)
      rw [show (((lo + hi) / 2 : Nat) : Int) = ((lo : Int) + (hi : Int)) / 2 by omega] at hc
      cases hp : p ((lo + hi) / 2) <;> rw [hp] at hc
      · have hlr2 : (lo + hi) / 2 + 1 ≤ r := by
          rcases Nat.lt_or_ge ((lo + hi) / 2) r with h | h
          · exact h
          · have := H1.out _ h (by omega); rw [hp] at this; cases this
        clear hp
        go_wp2_with (go_at_fn g; refine hc.mono ?_; rintro e w' ⟨rfl, hb2⟩)
        go_roundg (hi - ((lo + hi) / 2 + 1))
        case measure => omega
        case rel => exact ⟨(lo + hi) / 2 + 1, hi, by rw [show ((lo : Int) + (hi : Int)) / 2 + 1 = (((lo + hi) / 2 + 1 : Nat) : Int) by omega], rfl, hlr2, hrh, hin, Nat.le_refl _, hb.trans (hb2.mono hb.size)⟩
      · have hlr2 : r ≤ (lo + hi) / 2 := by
          rcases Nat.lt_or_ge ((lo + hi) / 2) r with h | h
          · have := H0.out _ h; rw [hp] at this; cases this
          · exact h
        clear hp
        go_wp2_with (go_at_fn g; refine hc.mono ?_; rintro e w' ⟨rfl, hb2⟩)
        go_roundg ((lo + hi) / 2 - lo)
        case measure => omega
        case rel => exact ⟨lo, (lo + hi) / 2, rfl, by rw [show ((lo : Int) + (hi : Int)) / 2 = (((lo + hi) / 2 : Nat) : Int) by omega], hlr, hlr2, by omega, Nat.le_refl _, hb.trans (hb2.mono hb.size)⟩
    · obtain rfl : hi = r := by omega
      obtain rfl : lo = hi := by omega
      go_wp2
      go_ret
      exact ⟨rfl, hb⟩
end Go.Proofs.Ytjmojfhkajknlaa
