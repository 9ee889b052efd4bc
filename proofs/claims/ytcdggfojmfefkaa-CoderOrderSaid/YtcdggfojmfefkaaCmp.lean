/- Comparisons: bytes in their order (the library's bytes.Compare), whole numbers (cmp.Compare). -/
import Derived.Test.YtcdggfojmfefkaaByt
import Derived.Lib.Bytealg
import Derived.Laws.Externs
namespace Go.Proofs.Ytcdggfojmfefkaa
open Go.RowKit
set_option linter.unusedVariables false
set_option linter.unusedSimpArgs false
theorem run_loadBytes {P : Program} (w : World) (bs : List UInt8) : ∀ (a : Addr) (acc : List UInt8), Lies w (some a) (bs.map vb) →
    (Extern.Bytes.loadBytes a bs.length (str acc)).run P w = .ok (str (acc ++ bs)) w := by
  induction bs with
  | nil => intro a acc _; simp [Extern.Bytes.loadBytes]
  | cons b bs ih =>
    intro a acc h
    obtain ⟨a', e, hc⟩ := h 0 (vb b) rfl
    cases e
    rw [Addr.add_zero'] at hc
    have hb : (b.toNat : Int).toNat.toUInt8 = b := by simp
    have hp : (str acc).push b = str (acc ++ [b]) := by simp [str, ByteArray.push]
    have hr : Lies w (some (a.add 1)) (bs.map vb) := by
      intro k v hk
      obtain ⟨a', e, hc⟩ := h (k + 1) v (by simpa using hk)
      cases e
      exact ⟨_, rfl, by rw [Addr.add_add, Nat.add_comm]; exact hc⟩
    have hi := ih (a.add 1) (acc ++ [b]) hr
    rw [List.append_assoc] at hi
    simp only [Extern.Bytes.loadBytes, List.length_cons, Sem.run_bind, run_load, hc, Result.andThen, vb, hb, hp]
    exact hi
theorem run_bytesOf {P : Program} {w : World} {A : Option Addr} {bs : List UInt8} (h : RB w A bs) (c : Nat) : (Extern.Bytes.bytesOf (.slice A bs.length c)).run P w = .ok (str bs) w := by
  cases A with
  | none =>
    have h0 : bs = [] := by
      cases bs with
      | nil => rfl
      | cons b bs => obtain ⟨a, ha, _⟩ := h.at (k := 0) (by simp); cases ha
    subst h0
    rfl
  | some a => exact run_loadBytes w bs a [] h
theorem run_compare {P : Program} {w : World} {A B : Option Addr} {xs ys : List UInt8} (hr : RB w A xs) (hs : RB w B ys) (c d : Nat) :
    (Extern.BytealgCompare.compare #[.slice A xs.length c, .slice B ys.length d]).run P w = .ok (.int .i64 (Lib.compareBytes xs ys)) w := by
  change Sem.run P (do pure (goInt (Extern.BytealgCompare.cmp (← Extern.Bytes.bytesOf (.slice A xs.length c)) (← Extern.Bytes.bytesOf (.slice B ys.length d))))) w = _
  simp only [Sem.run_bind, run_bytesOf hr, run_bytesOf hs, Sem.run_pure, Result.andThen]
  rw [Lib.cmp_eq]
  rfl
theorem compare_any (A B : Option Addr) (c d : Nat) (xs ys : List UInt8) (w : World) (hr : RB w A xs) (hs : RB w B ys) :
    Calls Try.prog 20 #[.slice A xs.length c, .slice B ys.length d] w fun e w' => e = .returned (.int .i64 (Lib.compareBytes xs ys)) ∧ w = w' := by
  have hk := run_callFunc_extern (P := Try.prog) Try.func35 (by kernel_rfl) (by kernel_rfl) (by kernel_rfl) (e := Extern.BytealgCompare.compare) (by kernel_rfl) #[.slice A xs.length c, .slice B ys.length d] w
  rw [run_compare hr hs c d, Result.andThen] at hk
  go_enter Try.func20, Try.ntmps20
  go_wp2
  go_ret
  exact ⟨rfl, rfl⟩
def cmpInt (x y : Int) : Int := if x < y then -1 else if y < x then 1 else 0
theorem cmpc_any (x y : Int) (w : World) :
    Calls Try.prog 21 #[.int .i64 x, .int .i64 y] w fun e w' => e = .returned (.int .i64 (cmpInt x y)) ∧ w = w' := by
  have hn : ∀ x w, Calls Try.prog 36 #[.int .i64 x] w fun e w' => e = .returned (.bool false) ∧ w = w' := by
    intro x w
    go_enter Try.func36, Try.ntmps36
    go_wp2
    go_ret
    exact ⟨by simp, rfl⟩
  by_cases h1 : x < y
  · have hc : cmpInt x y = -1 := if_pos h1
    rw [hc]
    go_enter Try.func21, Try.ntmps21
    go_wp2_with (refine (hn _ _).mono ?_; rintro e w' ⟨rfl, rfl⟩)
    go_ret
    exact ⟨rfl, rfl⟩
  · by_cases h2 : y < x
    · have hc : cmpInt x y = 1 := by rw [cmpInt, if_neg h1, if_pos h2]
      rw [hc]
      go_enter Try.func21, Try.ntmps21
      go_wp2_with (refine (hn _ _).mono ?_; rintro e w' ⟨rfl, rfl⟩)
      go_ret
      exact ⟨rfl, rfl⟩
    · have hc : cmpInt x y = 0 := by rw [cmpInt, if_neg h1, if_neg h2]
      rw [hc]
      go_enter Try.func21, Try.ntmps21
      go_wp2_with (refine (hn _ _).mono ?_; rintro e w' ⟨rfl, rfl⟩)
      go_ret
      exact ⟨rfl, rfl⟩
end Go.Proofs.Ytcdggfojmfefkaa
