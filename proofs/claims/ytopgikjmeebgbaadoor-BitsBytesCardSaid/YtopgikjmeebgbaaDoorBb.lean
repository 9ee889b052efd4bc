/- OnesCount64. -/
import Derived.Test.YtopgikjmeebgbaaDoorChecked
import Derived.Test.YtopgikjmeebgbaaDoorBa
import Derived.WalkLawsBesides
import Derived.WalkSpells
import Derived.Outline
import Derived.LoopTactic
import Derived.Deep.LoopGhost
import Derived.OwnWalk
import Derived.Laws.Bits128
namespace Go.Proofs.YtopgikjmeebgbaaDoor
open Go.RowKit
set_option linter.unusedVariables false
set_option linter.unusedSimpArgs false
theorem wrapN (x : Nat) (h : x < 18446744073709551616) : IntKind.u64.wrap (x : Int) = (x : Int) := by rw [IntKind.wrap_u64]; omega
set_option maxHeartbeats 800000 in
theorem ones_any (x : Nat) (w : World) (hx : x < 18446744073709551616) :
    Calls Tryd.prog 45 #[.int .u64 x] w fun e w' => e = .returned (.int .i64 (popW 8 x)) ∧ w = w' := by
  obtain ⟨a, b, c, d, e, f, g, h, ha, hb, hc, hd, he, hf, hg, hh, rfl⟩ := horn_of x hx
  rw [horn_pop a b c d e f g h ha hb hc hd he hf hg hh]
  have a1 := bA ⟨a, ha⟩; have b1 := bA ⟨b, hb⟩; have c1 := bA ⟨c, hc⟩; have d1 := bA ⟨d, hd⟩; have e1 := bA ⟨e, he⟩; have f1 := bA ⟨f, hf⟩; have g1 := bA ⟨g, hg⟩; have h1 := bA ⟨h, hh⟩
  have a2 := bB ⟨a, ha⟩; have b2 := bB ⟨b, hb⟩; have c2 := bB ⟨c, hc⟩; have d2 := bB ⟨d, hd⟩; have e2 := bB ⟨e, he⟩; have f2 := bB ⟨f, hf⟩; have g2 := bB ⟨g, hg⟩; have h2 := bB ⟨h, hh⟩
  have a3 := bC ⟨a, ha⟩; have b3 := bC ⟨b, hb⟩; have c3 := bC ⟨c, hc⟩; have d3 := bC ⟨d, hd⟩; have e3 := bC ⟨e, he⟩; have f3 := bC ⟨f, hf⟩; have g3 := bC ⟨g, hg⟩; have h3 := bC ⟨h, hh⟩
  simp only at a1 b1 c1 d1 e1 f1 g1 h1 a2 b2 c2 d2 e2 f2 g2 h2 a3 b3 c3 d3 e3 f3 g3 h3
  have HA := hornA a b c d e f g h ha hb hc hd he hf hg hh
  have HB := hornB _ _ _ _ _ _ _ _ a1 b1 c1 d1 e1 f1 g1 h1
  have HC := hornC _ _ _ _ _ _ _ _ a2 b2 c2 d2 e2 f2 g2 h2
  have L2 : horn (sA a) (sA b) (sA c) (sA d) (sA e) (sA f) (sA g) (sA h) < 18446744073709551616 := by unfold horn; omega
  have L3 : horn (sB (sA a)) (sB (sA b)) (sB (sA c)) (sB (sA d)) (sB (sA e)) (sB (sA f)) (sB (sA g)) (sB (sA h)) ≤ 4919131752989213764 := by unfold horn; omega
  have P : horn (sC (sB (sA a))) (sC (sB (sA b))) (sC (sB (sA c))) (sC (sB (sA d))) (sC (sB (sA e))) (sC (sB (sA f))) (sC (sB (sA g))) (sC (sB (sA h))) = horn (popB a) (popB b) (popB c) (popB d) (popB e) (popB f) (popB g) (popB h) := rfl
  rw [P] at HC
  clear P ha hb hc hd he hf hg hh a1 b1 c1 d1 e1 f1 g1 h1 a2 b2 c2 d2 e2 f2 g2 h2
  generalize horn a b c d e f g h = x0 at hx HA
  generalize horn (sA a) (sA b) (sA c) (sA d) (sA e) (sA f) (sA g) (sA h) = x1 at HA HB L2
  generalize horn (sB (sA a)) (sB (sA b)) (sB (sA c)) (sB (sA d)) (sB (sA e)) (sB (sA f)) (sB (sA g)) (sB (sA h)) = x2 at HB HC L3
  generalize popB a = pa at *
  generalize popB b = pb at *
  generalize popB c = pc at *
  generalize popB d = pd at *
  generalize popB e = pe at *
  generalize popB f = pf at *
  generalize popB g = pg at *
  generalize popB h = ph at *
  have E1 : IntKind.u64.wrap (bits .and .u64 ((x0 : Int) / 2) 6148914691236517205 + bits .and .u64 (x0 : Int) 6148914691236517205) = (x1 : Int) := by
    have q1 := bits_and_u64_nat (x0 / 2) 6148914691236517205 (by omega) (by decide)
    have q2 := bits_and_u64_nat x0 6148914691236517205 hx (by decide)
    have q3 : ((x0 / 2 : Nat) : Int) = (x0 : Int) / 2 := by omega
    rw [q3] at q1
    rw [show (6148914691236517205 : Int) = ((6148914691236517205 : Nat) : Int) from rfl, q1, q2, ← Int.natCast_add, HA, wrapN _ L2]
  have E2 : IntKind.u64.wrap (bits .and .u64 ((x1 : Int) / 4) 3689348814741910323 + bits .and .u64 (x1 : Int) 3689348814741910323) = (x2 : Int) := by
    have q1 := bits_and_u64_nat (x1 / 4) 3689348814741910323 (by omega) (by decide)
    have q2 := bits_and_u64_nat x1 3689348814741910323 L2 (by decide)
    have q3 : ((x1 / 4 : Nat) : Int) = (x1 : Int) / 4 := by omega
    rw [q3] at q1
    rw [show (3689348814741910323 : Int) = ((3689348814741910323 : Nat) : Int) from rfl, q1, q2, ← Int.natCast_add, HB, wrapN _ (by omega)]
  obtain ⟨x3, hx3⟩ : ∃ x3, x3 = horn pa pb pc pd pe pf pg ph := ⟨_, rfl⟩
  rw [← hx3] at HC
  have E3 : bits .and .u64 (IntKind.u64.wrap ((x2 : Int) / 16 + (x2 : Int))) 1085102592571150095 = (x3 : Int) := by
    have q1 := bits_and_u64_nat (x2 / 16 + x2) 1085102592571150095 (by omega) (by decide)
    have q3 : IntKind.u64.wrap ((x2 : Int) / 16 + (x2 : Int)) = ((x2 / 16 + x2 : Nat) : Int) := by rw [IntKind.wrap_u64]; omega
    rw [q3, show (1085102592571150095 : Int) = ((1085102592571150095 : Nat) : Int) from rfl, q1, HC]
  obtain ⟨x4, hx4⟩ : ∃ x4, x4 = x3 + x3 / 256 := ⟨_, rfl⟩
  obtain ⟨x5, hx5⟩ : ∃ x5, x5 = x4 + x4 / 65536 := ⟨_, rfl⟩
  obtain ⟨x6, hx6⟩ : ∃ x6, x6 = x5 + x5 / 4294967296 := ⟨_, rfl⟩
  obtain ⟨L4, G7⟩ := addUp pa pb pc pd pe pf pg ph a3 b3 c3 d3 e3 f3 g3 h3 x3 x4 x5 x6 hx3 hx4 hx5 hx6
  clear hx3 HA HB HC a3 b3 c3 d3 e3 f3 g3 h3
  have E4 : IntKind.u64.wrap ((x3 : Int) + (x3 : Int) / 256) = (x4 : Int) := by rw [IntKind.wrap_u64]; omega
  have E5 : IntKind.u64.wrap ((x4 : Int) + (x4 : Int) / 65536) = (x5 : Int) := by rw [IntKind.wrap_u64]; omega
  have E6 : IntKind.u64.wrap ((x5 : Int) + (x5 : Int) / 4294967296) = (x6 : Int) := by rw [IntKind.wrap_u64]; omega
  have G6 : x6 < 9223372036854775808 := by omega
  rw [← G7]
  clear G7 hx4 hx5 hx6 L4
  clear L2 L3
  go_enter Tryd.func45, Tryd.ntmps45
  go_wp2
  go_ret
  exact ⟨ret_int (by rw [i64_and127]; omega), rfl⟩
end Go.Proofs.YtopgikjmeebgbaaDoor
