/- The document's Within; an array's element at a variable index. -/
import Derived.Test.YtokcohepkajloaaMo
namespace Go.Proofs.Ytokcohepkajloaa
open Go.RowKit
set_option linter.unusedVariables false
set_option linter.unusedSimpArgs false
theorem run_index_ic {P : Program} (w : World) (t e : TypeId) (n : Nat) (l : List Int) (i : Nat) (hu : P.underlying t = some (.array n e)) (hag : (isAgg e).run P w = .ok false w) (hsz : (sizeOf e).run P w = .ok 1 w) (hl : l.length = n) (hi : i < n) :
    (Instr.index t (.agg (ic l).toArray) (.int .i64 i)).run P w = .ok (.int .i64 (l[i]'(by omega))) w := by
  have hp := run_part_ic w e hag l i (by omega)
  have h1 : (0 : Int) ≤ (i : Int) ∧ (i : Int) < n := by omega
  simp only [Instr.index, asIntOf, Sem.run_bind, Sem.run_pure, Result.andThen_ok, run_underlying hu, Sem.run_ite, if_pos h1, hsz, Int.toNat_natCast, Nat.mul_one]
  exact hp
theorem wpList_index_ic {P : Program} {w : World} {ops : Array Oper} {rest : List Oper} {o : Oper} {a : Act} {Q : Exit → Act → World → Prop} (hgd : o.guard = none) (t : TypeId) (x y : Operand) (ho : o.op = .index t x y)
    (e : TypeId) (n : Nat) (l : List Int) (i : Nat) (hx : a.eval x = .agg (ic l).toArray) (hy : a.eval y = .int .i64 i) (hu : P.underlying t = some (.array n e)) (hag : (isAgg e).run P w = .ok false w) (hsz : (sizeOf e).run P w = .ok 1 w) (hl : l.length = n) (hi : i < n)
    (h : wpList P ops Q rest (a.put o.dst (.int .i64 (l[i]'(by omega)))) w) : wpList P ops Q (o :: rest) a w := by
  refine wpList_plain hgd fun K hK => ?_
  unfold Oper.wp execOp
  simp only [ho, hx, hy, run_index_ic w t e n l i hu hag hsz hl hi, Sem.run_bind, Result.andThen_ok, Sem.run_pure]
  exact hK _ _ h
/-- Is each number at most the other one's? -/
def withinv (a b : List Int) : Prop := ∀ i (h1 : i < a.length) (h2 : i < b.length), a[i] ≤ b[i]
set_option maxHeartbeats 800000 in
theorem rwithin_true (a b : List Int) (w : World) (ha : a.length = 64) (hb : b.length = 64) (h : withinv a b) :
    Calls Try.prog 10 #[vv a, vv b] w fun e w' => e = .returned (.bool true) ∧ Below w.heap.size w w' := by
  have hia := Lib.hid (info_row ha)
  have HA := Lib.hid ha
  have HB := Lib.hid hb
  have HW := Lib.hid h
  go_enter Try.func10, Try.ntmps10
  unfold vv
  go_upto_region 1 with fail
  have hbW : Below w.heap.size w ((w.alloc (.cells (ic a).toArray 27)).alloc (.cells (ic b).toArray 27)) := ((Below.refl _ _).alloc (Nat.le_refl _) _).alloc (by simp) _
  have h0 := heap_alloc2_old w (.cells (ic a).toArray 27) (.cells (ic b).toArray 27)
  have h1 := heap_alloc2_new w (.cells (ic a).toArray 27) (.cells (ic b).toArray 27)
  generalize (w.alloc (.cells (ic a).toArray 27)).alloc (.cells (ic b).toArray 27) = W at h0 h1 hbW
  have hia2 := Lib.hid (info_of ha)
  clear ha hb h
  go_wp2_with (refine wpList_load_row rfl 27 (.tmp 2) rfl w.heap.size rfl 27 _ (0, 0) _ h0 Try.underlying27 rfl hia2.out ?_)
  go_loopg [8] 64 (fun r i wr => wr = W ∧ ∃ j : Nat, j + r = 64 ∧ i = .int .i64 j)
  case atStart => exact ⟨rfl, 0, by omega, rfl⟩
  case round =>
    obtain ⟨rfl, j, hj, rfl⟩ := hrel
    by_cases hj64 : j < 64
    · have hja : j < a.length := by rw [HA.out]; exact hj64
      have hjb : j < b.length := by rw [HB.out]; exact hj64
      have hle := HW.out j hja hjb
      have hc1 : wr.cell? ⟨w.heap.size + 1, j, none⟩ = some (.int .i64 b[j]) := by simp only [World.cell?, h1]; rw [List.getElem?_toArray, ic, List.getElem?_map, List.getElem?_eq_getElem hjb]; rfl
      have hq : decide (b[j] < a[j]) = false := decide_eq_false (by omega)
      have hj1 : ((j : Nat) : Int) < 64 := by omega
      have H1 := Lib.hid h1
      have H0 := Lib.hid h0
      clear h0 h1
      go_wp2_with (refine wpList_index_ic rfl 27 (.tmp 7) (.tmp 8) rfl 3 64 a j rfl rfl Try.underlying27 (Try.isAgg3 _) (Try.sizeOf3 _) HA.out hj64 ?_)
      go_goals
      go_roundg (64 - (j + 1))
      case measure => omega
      case rel => exact ⟨rfl, j + 1, by omega, by go_num⟩
    · obtain rfl : j = 64 := by omega
      clear h0 h1
      go_wp2
      go_ret
      exact ⟨rfl, hbW⟩
end Go.Proofs.Ytokcohepkajloaa
