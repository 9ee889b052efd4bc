/- The example: the walk. -/
import Derived.Test.YtjfjeajbekhmdaaPgJ
import Derived.Lib.SlBytesConst
namespace Go.Proofs.Ytjfjeajbekhmdaa
open Go.RowKit Go.Maps
set_option linter.unusedVariables false
set_option linter.unusedSimpArgs false
def a1 : Dsk := (fresh 2).wrote 1 [97, 98]
def a2 : Dsk := a1.synced
def a3 : Dsk := a2.wrote 1 [99, 100]
def a4 : Dsk := a3.crashed [] (-1) 0
theorem a4_now : pad (a4.now 1) = 97 :: 98 :: List.replicate 126 0 := by decide +kernel
theorem a1_e : (fresh 2).writeE 1 [97, 98] = 0 := by decide +kernel
theorem a2_e : a1.actE = 0 := by decide +kernel
theorem a3_e : a2.writeE 1 [99, 100] = 0 := by decide +kernel
theorem a4_e : a4.readE 1 = 0 := by decide +kernel
theorem nil_lies (w : World) : Lies w none (([] : List Int).map (Value.int .i64)) := fun k v hk => by simp at hk
set_option maxHeartbeats 1600000 in
theorem awake_any (w : World) : Calls Try.prog 15 #[] w fun e w' => e = .returned (.bool true) ∧ Below w.heap.size w w' := by
  have HN := Lib.hid (new_any 2 w (by decide) (by decide))
  have kc := fun (w : World) (C : Array Value) (n c : Nat) => Lib.run_convert_bytes_const (P := Try.prog) w 22 5 C n c Try.underlying22 Try.underlying5
  go_enter Try.func15, Try.ntmps15
  go_wp2_with (go_at_call 7; refine HN.out.mono ?_; rintro e w1 ⟨g, k, m, rfl, hd1, hb1, g1, g2, g3⟩)
  refine (write_lit g k m 2 (fresh 2) 1 [97, 98] w1 hd1 (by decide) _ rfl _ _ 2 rfl).mono ?_
  rintro e w2 ⟨rfl, hd2, ho2⟩
  rw [a1_e]
  have hd2 : DkAt w2 g k m 2 a1 := hd2
  go_wp2_with fail
  refine (sync_any g k m 2 a1 w2 hd2).mono ?_
  rintro e w3 ⟨rfl, hd3, ho3⟩
  rw [a2_e]
  have hd3 : DkAt w3 g k m 2 a2 := hd3
  go_wp2_with fail
  refine (write_lit g k m 2 a2 1 [99, 100] w3 hd3 (by decide) _ rfl _ _ 2 rfl).mono ?_
  rintro e w4 ⟨rfl, hd4, ho4⟩
  rw [a3_e]
  have hd4 : DkAt w4 g k m 2 a3 := hd4
  go_wp2_with fail
  refine (crash_any g k m 2 a3 none 0 [] (-1) 0 w4 hd4 (nil_lies w4) (fun a ha _ => by cases ha) (by decide)).mono ?_
  rintro e w5 ⟨rfl, hd5, ho5⟩
  have hd5 : DkAt w5 g k m 2 a4 := hd5
  go_wp2_with fail
  refine (read_any g k m 2 a4 1 w5 hd5).mono ?_
  rintro e w6 ⟨v6, rfl, hv6, hb6⟩
  rw [a4_e] at hv6 ⊢
  rw [if_pos rfl, show (1 : Int).toNat = 1 from rfl, a4_now] at hv6
  have ho := (((ho2.trans ho3).trans ho4).trans ho5).alike hb6
  have hb := hb1.trans (ho.below (B := w.heap.size) (fun i h => by simp at h; rcases h with h | h | h <;> omega) hb1.size)
  obtain ⟨A6, c6, rfl, hl6, hA6⟩ := hv6.form
  have e128 : (97 :: 98 :: List.replicate 126 (0 : UInt8)).length = 128 := rfl
  rw [e128] at hl6 ⊢
  have hr6 : RB w6 A6 [97, 98] := by
    have h := RB.of_own hv6
    intro j u hj
    refine h j u ?_
    match j, hj with
    | 0, hj => exact hj
    | 1, hj => exact hj
    | j + 2, hj => simp at hj
  have kc2 := RB.str (P := Try.prog) (w := w6) (src := 22) (dst := 9) Try.underlying22 Try.underlying5 Try.underlying9 hr6 2 c6 rfl
  have hc6 : (2 : Int) ≤ (c6 : Int) := by omega
  have hs2 : str [97, 98] = ⟨#[97, 98]⟩ := rfl
  rw [hs2] at kc2
  clear hv6 hr6 e128 hd2 hd3 hd4 hd5 hs2 hd1
  go_wp2
  go_returns
  exact ⟨rfl, hb⟩
end Go.Proofs.Ytjfjeajbekhmdaa
