/- The document's Page, Fuse, Read, Write: the walks. -/
import Derived.Test.YtjfjeajbekhmdaaPgP
namespace Go.Proofs.Ytjfjeajbekhmdaa
open Go.RowKit Go.Maps
set_option linter.unusedVariables false
set_option linter.unusedSimpArgs false
theorem str_zero (l : List UInt8) : str l ++ ⟨#[0]⟩ = str (l ++ [0]) := by
  have h : (str l ++ (⟨#[0]⟩ : ByteArray)).data.toList = (str (l ++ [0])).data.toList := by
    simp [str]
  cases hx : (str l ++ (⟨#[0]⟩ : ByteArray)) with
  | mk p => cases hy : str (l ++ [0]) with
    | mk q =>
      rw [hx, hy] at h
      exact congrArg ByteArray.mk (by cases p; cases q; exact congrArg Array.mk h)
set_option maxHeartbeats 1600000 in
theorem page_any (A : Option Addr) (cc : Nat) (bs : List UInt8) (w : World) (hr : RB w A bs) (hl : bs.length ≤ 128) :
    Calls Try.prog 14 #[.slice A bs.length cc] w fun e w' => e = .returned (.string (str (pad bs))) ∧ w = w' := by
  have kc := RB.str (P := Try.prog) (w := w) (src := 22) (dst := 9) Try.underlying22 Try.underlying5 Try.underlying9 hr bs.length cc rfl
  clear hr
  obtain ⟨R, hR⟩ : ∃ R : Nat, R = 128 - bs.length := ⟨_, rfl⟩
  have hR2 : (128 : Int) - (bs.length : Int) = (R : Int) := by omega
  have HP : Hid (pad bs = bs ++ List.replicate R 0) := by show _ = _; rw [hR]; rfl
  have hRl : R ≤ 128 := by omega
  have hbR : bs.length + R = 128 := by omega
  clear hR
  go_enter Try.func14, Try.ntmps14
  go_wp2
  go_loopg [3, 9] R (fun r s i wr => ∃ j : Nat, j + r = R ∧ i = .int .i64 j ∧ s = .string (str (bs ++ List.replicate j 0)) ∧ w = wr)
  case atStart => exact ⟨0, by omega, rfl, by simp, rfl⟩
  case round =>
    obtain ⟨j, hj, rfl, rfl, rfl⟩ := hrel
    by_cases hjR : j < R
    · have hj1 : decide ((j : Int) < (R : Int)) = true := decide_eq_true (by omega)
      have HZ := Lib.hid (str_zero (bs ++ List.replicate j 0))
      rw [List.append_assoc, ← List.replicate_succ'] at HZ
      obtain ⟨S, hS⟩ : ∃ S, S = str (bs ++ List.replicate j 0) := ⟨_, rfl⟩
      have hSs : ∃ k, S.size = k ∧ k < 9223372036854775807 := ⟨_, rfl, by rw [hS, str_size, List.length_append, List.length_replicate]; omega⟩
      obtain ⟨k, hk, hk2⟩ := hSs
      have hk3 : decide (9223372036854775807 < k + 1) = false := decide_eq_false (by omega)
      have hk4 : ¬ (9223372036854775807 < k + 1) := by omega
      have hk5 : ¬ (9223372036854775807 ≤ k) := by omega
      rw [← hS] at HZ ⊢
      clear hS
      go_wp2
      go_roundg (R - (j + 1))
      case measure => omega
      case rel => exact ⟨j + 1, by omega, by go_num, by rw [HZ.out], rfl⟩
    · obtain rfl : j = R := by omega
      go_wp2
      go_returns
      exact ⟨by rw [HP.out]; rfl, rfl⟩
theorem fused_leftI {d : Dsk} (n : Int) (h : d.dead = false) : (d.fused n).leftI = if n < -1 then -1 else n := by
  simp only [Dsk.fused, h, Dsk.leftI, Bool.false_eq_true, if_false]
  by_cases h0 : 0 ≤ n
  · simp only [decide_eq_true h0, if_true]
    rw [if_neg (by omega)]
    omega
  · simp only [decide_eq_false h0, Bool.false_eq_true, if_false]
    split <;> omega
theorem rfuse_any (g a b c x y z m : Nat) (N H : List (List UInt8)) (I : List Bool) (d : Dsk) (n : Int) (w : World) (h : Rf w g a b c x y z m N H I d.leftI d.dead) (hn : n ≤ 9223372036854775807) (hn0 : -9223372036854775808 ≤ n) :
    Calls Try.prog 28 #[.pointer (some ⟨g, 0, none⟩), .int .i64 n] w fun e w' => e = .returned (.int .i64 d.fuseE) ∧ Rf w' g a b c x y z m N H I (d.fused n).leftI (d.fused n).dead ∧ Only w w' [g] := by
  have HR := Lib.hid h
  have k4 := h.c4
  have k3 := h.c3
  have f3 := h.f 3
  have HL := Lib.hid (fun l2 => h.setLeft l2)
  clear h
  cases hd : d.dead with
  | true =>
    rw [hd] at k4
    have e1 : d.fuseE = 9 := by simp [Dsk.fuseE, hd]
    have e2 : d.fused n = d := by simp [Dsk.fused, hd]
    rw [e1, e2]
    clear e1 e2 hd
    go_enter Try.func28, Try.ntmps28
    go_wp2
    go_returns
    exact ⟨rfl, HR.out, Only.refl _ _⟩
  | false =>
    rw [hd] at k4
    have e1 : d.fuseE = 0 := by simp [Dsk.fuseE, hd]
    have e2 : (d.fused n).dead = false := by simp [Dsk.fused, hd]
    rw [e1, e2, fused_leftI n hd]
    rw [hd] at HL
    clear e1 e2
    obtain ⟨M, hM⟩ : ∃ M : Int, (if n < -1 then -1 else n) = M := ⟨_, rfl⟩
    rw [hM]
    clear hd
    go_enter Try.func28, Try.ntmps28
    go_wp2
    go_returns
    exact ⟨rfl, (HL.out M).1, (HL.out M).2⟩
/-- What the document's Read gives. -/
def Dsk.readS (d : Dsk) (i : Int) : List UInt8 := if d.readE i = 0 then pad (d.now i.toNat) else []
theorem nows_at (d : Dsk) (i : Nat) (h : i < d.kept.length) : d.nows[i]? = some (pad (d.now i)) := by
  simp [Dsk.nows, h]
theorem rread_any (g a b c x y z : Nat) (d : Dsk) (i : Int) (w : World) (h : RfAt w g a b c x y z d) (hm : d.kept.length ≤ 4096) :
    Calls Try.prog 21 #[.pointer (some ⟨g, 0, none⟩), .int .i64 i] w fun e w' => e = .returned (.tuple #[.string (str (d.readS i)), .int .i64 (d.readE i)]) ∧ w = w' := by
  have k0 := h.c0
  have k4 := h.c4
  by_cases ha : d.askE i = 0
  · obtain ⟨hi0, hi1⟩ := askE_zero ha
    obtain ⟨j, rfl⟩ : ∃ j : Nat, i = (j : Int) := ⟨i.toNat, by omega⟩
    have hj : j < d.kept.length := by omega
    have hq1 : decide ((j : Int) < 0) = false := decide_eq_false (by omega)
    have hq2 : decide ((j : Int) ≥ (d.kept.length : Int)) = false := decide_eq_false (by omega)
    have hq3 : decide ((d.kept.length : Int) ≤ (j : Int)) = false := decide_eq_false (by omega)
    have hq4 : decide (d.kept.length ≤ j) = false := decide_eq_false (by omega)
    have hk := World.ownsRow.cellAt h.rn j (by omega)
    rw [List.getElem?_map, nows_at d j hj] at hk
    simp only [Option.map_some] at hk
    unfold vs at hk
    cases hd : d.dead with
    | true =>
      have e1 : d.readE j = 9 := by unfold Dsk.readE; rw [ha, if_neg (by decide), hd]; rfl
      have e2 : d.readS j = [] := by unfold Dsk.readS; rw [e1]; rfl
      rw [e1, e2]
      rw [hd] at k4
      clear h ha e1 e2 hd
      go_enter Try.func21, Try.ntmps21
      go_wp2
      go_ret2
      exact ⟨rfl, rfl⟩
    | false =>
      have e1 : d.readE j = 0 := by unfold Dsk.readE; rw [ha, if_neg (by decide), hd]; rfl
      have e2 : d.readS j = pad (d.now j) := by unfold Dsk.readS; rw [e1, if_pos rfl, Int.toNat_natCast]
      rw [e1, e2]
      rw [hd] at k4
      generalize pad (d.now j) = P at hk ⊢
      clear h ha e1 e2 hd
      go_enter Try.func21, Try.ntmps21
      go_wp2
      go_ret2
      exact ⟨rfl, rfl⟩
  · have e1 : d.readE i = 1 := by unfold Dsk.readE; rw [if_pos ha]
    have e2 : d.readS i = [] := by unfold Dsk.readS; rw [e1]; rfl
    have hno : ¬ (0 ≤ i ∧ i < d.kept.length) := fun hh => ha (by unfold Dsk.askE; rw [if_pos hh])
    rw [e1, e2]
    clear h ha e1 e2
    by_cases h1 : i < 0
    · have hq1 : decide (i < 0) = true := decide_eq_true h1
      go_enter Try.func21, Try.ntmps21
      go_wp2
      go_ret2
      exact ⟨rfl, rfl⟩
    · have hq1 : decide (i < 0) = false := decide_eq_false h1
      have hq2 : decide (i ≥ (d.kept.length : Int)) = true := decide_eq_true (by omega)
      have hq3 : decide ((d.kept.length : Int) ≤ i) = true := decide_eq_true (by omega)
      clear hno
      go_enter Try.func21, Try.ntmps21
      go_wp2
      go_ret2
      exact ⟨rfl, rfl⟩
end Go.Proofs.Ytjfjeajbekhmdaa
