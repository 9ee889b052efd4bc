/- Bytes that a call makes; the library's Clone and Equal of bytes. -/
import Derived.Test.YtjfpanamkkdebaaChecked
import Derived.Test.YtjfpanamkkdebaaBase
import Derived.Test.YtjfpanamkkdebaaLaws
import Derived.WalkLawsBesides
import Derived.WalkSpells
import Derived.Outline
import Derived.LoopTactic
import Derived.Lib.Hide
import Derived.Deep.LoopGhost
import Derived.Deep.RegionLaw
import Derived.Deep.AppendLies
namespace Go.Proofs.Ytjfpanamkkdebaa
open Go.RowKit
set_option linter.unusedVariables false
set_option linter.unusedSimpArgs false
theorem info_u8 : (Try.prog.info? 5).map (fun i => (i.zero, i.size, i.bytes)) = some (some (.int .u8 0), 1, 1) := by kernel_rfl
/-- Bytes that the call itself made. -/
def OB (w : World) (base : Nat) (v : Value) (bs : List UInt8) : Prop := w.ownsRow base 5 1 v bs.length (bs.map vb)
theorem OB.mk {w : World} {base n : Nat} {v : Value} {xs : List Value} {bs : List UInt8} (h : w.ownsRow base 5 1 v n xs) (hn : n = bs.length) (hx : xs = bs.map vb) : OB w base v bs := by
  subst hn
  subst hx
  exact h
theorem RB.of_own {w : World} {base : Nat} {A : Option Addr} {n c : Nat} {bs : List UInt8} (h : OB w base (.slice A n c) bs) : RB w A bs := Lies.of_own h
theorem OB.form {w : World} {base : Nat} {v : Value} {bs : List UInt8} (h : OB w base v bs) : ∃ A c, v = .slice A bs.length c ∧ bs.length ≤ c ∧ (A = none → c = 0) := by
  rcases h.2 with ⟨rfl, h0⟩ | ⟨g, cap, cur, rfl, _, _, h, _⟩
  · exact ⟨_, _, by rw [h0], by omega, fun _ => rfl⟩
  · exact ⟨_, _, rfl, h, fun h => by cases h⟩
theorem OB.below {w w' : World} {base : Nat} {v : Value} {bs : List UInt8} (h : OB w base v bs) (hb : Below w.heap.size w w') : OB w' base v bs := by
  refine World.ownsRow.kept h (row := none) ⟨hb.os, hb.tape, hb.output, hb.size, fun k hk _ => hb.block k hk⟩ ?_
  cases v.ownBlock <;> simp
theorem OB.set {w : World} {base g n c : Nat} {bs : List UInt8} (h : OB w base (.slice (some ⟨g, 0, none⟩) n c) bs) (i : Nat) (y : UInt8) (hn : n = bs.length) : OB (w.setCell ⟨g, i, none⟩ (vb y)) base (.slice (some ⟨g, 0, none⟩) n c) (bs.set i y) := by
  subst hn
  have := (World.ownsRow.stored h i (vb y)).1
  unfold OB
  rw [List.length_set, List.map_set]
  exact this
theorem OB.drew {w : World} {base : Nat} {v : Value} {bs : List UInt8} (h : OB w base v bs) : OB w.drew base v bs := h
theorem OB.mono {w : World} {base base' : Nat} {v : Value} {bs : List UInt8} (h : OB w base v bs) (hb : base' ≤ base) : OB w base' v bs := by
  refine ⟨h.1, ?_⟩
  rcases h.2 with h | ⟨g, cap, cur, hv, hg, r⟩
  · exact .inl h
  · exact .inr ⟨g, cap, cur, hv, Nat.le_trans hb hg, r⟩
theorem vb_ofNat (n : Nat) : vb (UInt8.ofNat n) = .int .u8 ((n : Int) % 256) := by
  simp [vb]
theorem vbs_one (bs : List UInt8) : ∀ u ∈ bs.map vb, u.oneCell' = true := by
  intro u hu
  obtain ⟨b, _, rfl⟩ := List.mem_map.1 hu
  rfl
theorem equal_any (A B : Option Addr) (c d : Nat) (xs ys : List UInt8) (w : World) (hr : RB w A xs) (hs : RB w B ys) :
    Calls Try.prog 14 #[.slice A xs.length c, .slice B ys.length d] w fun e w' => e = .returned (.bool (xs == ys)) ∧ w = w' := by
  have k1 := RB.str (P := Try.prog) (src := 29) (dst := 9) Try.underlying29 Try.underlying5 Try.underlying9 hr xs.length c rfl
  have k2 := RB.str (P := Try.prog) (src := 29) (dst := 9) Try.underlying29 Try.underlying5 Try.underlying9 hs ys.length d rfl
  go_enter Try.func14, Try.ntmps14
  go_wp2
  go_ret
  refine ⟨?_, rfl⟩
  show Ending.returned (.bool ((str xs).toList == (str ys).toList)) = _
  rw [str_toList', str_toList']
end Go.Proofs.Ytjfpanamkkdebaa
