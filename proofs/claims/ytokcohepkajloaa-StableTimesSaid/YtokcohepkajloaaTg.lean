/- The latest of some writes. -/
import Derived.Test.YtokcohepkajloaaTf
import Derived.Test.YtokcohepkajloaaMt
namespace Go.Proofs.Ytokcohepkajloaa
open Go.RowKit
set_option linter.unusedVariables false
set_option linter.unusedSimpArgs false
def late (l : List Wr) : Int := l.foldl (fun t x => max t x.time) 0
theorem late_step (l : List Wr) (j : Nat) (hj : j < l.length) : late (l.take (j + 1)) = max (late (l.take j)) l[j].time := by
  unfold late
  rw [List.take_add_one, List.getElem?_eq_getElem hj, List.foldl_append]
  rfl
theorem wflat_at : ∀ (l : List Wr) (j k : Nat) (hj : j < l.length), k < 6 → (l.flatMap wcs)[j * 6 + k]? = (wcs l[j])[k]?
  | [], _, _, hj, _ => by cases hj
  | h :: l, 0, k, _, hk => by
    have : (wcs h).length = 6 := rfl
    rw [List.flatMap_cons, Nat.zero_mul, Nat.zero_add, List.getElem?_append_left (by omega)]; rfl
  | h :: l, j + 1, k, hj, hk => by
    have : (wcs h).length = 6 := rfl
    rw [List.flatMap_cons, List.getElem?_append_right (by omega), this, show (j + 1) * 6 + k - 6 = j * 6 + k by omega]
    exact wflat_at l j k (by simpa using hj) hk
theorem write_at {w : World} {A : Option Addr} {l : List Wr} (h : Lies w A (l.flatMap wcs)) (j : Nat) (hj : j < l.length) : ∃ a, A = some a ∧ ∀ k v, (wcs l[j])[k]? = some v → w.cell? ((a.add (j * 6)).add k) = some v := by
  have h0 : (l.flatMap wcs)[j * 6 + 0]? = some (.int .i64 l[j].dot.1) := by rw [wflat_at l j 0 hj (by decide)]; rfl
  obtain ⟨a, rfl, _⟩ := h _ _ h0
  refine ⟨a, rfl, fun k v hk => ?_⟩
  have hk6 : k < 6 := (List.getElem?_eq_some_iff.1 hk).1
  rw [← wflat_at l j k hj hk6] at hk
  obtain ⟨a', e, hc⟩ := h _ _ hk
  cases e
  rw [Addr.add_add]
  exact hc
theorem info_write : (Try.prog.info? 50).map (·.size) = some 6 := by kernel_rfl
set_option maxHeartbeats 1600000 in
theorem latest_any (A : Option Addr) (c : Nat) (l : List Wr) (w : World) (hr : Lies w A (l.flatMap wcs)) (hA : A = none → c = 0) (hlc : l.length ≤ c) (hm : l.length ≤ 9223372036854775807) :
    Calls Try.prog 22 #[.slice A l.length c] w fun e w' => e = .returned (.int .i64 (late l)) ∧ Below w.heap.size w w' := by
  have HR0 := Lib.hid hr
  clear hr
  go_enter Try.func22, Try.ntmps22
  go_wp2
  go_loopg [3, 8] l.length (fun r t i wr => ∃ (j : Nat), j + r = l.length ∧ i = .int .i64 j ∧ t = .int .i64 (late (l.take j)) ∧ Below w.heap.size w wr)
  case atStart => exact ⟨0, by omega, rfl, rfl, Below.refl _ _⟩
  case round =>
    obtain ⟨j, hj, rfl, rfl, hbW⟩ := hrel
    by_cases hjl : j < l.length
    · obtain ⟨a, rfl, hcell⟩ := write_at (HR0.out.below hbW) j hjl
      have hs := Lib.hid (late_step l j hjl)
      generalize l[j] = x at hcell hs
      generalize late (l.take j) = t at hs ⊢
      obtain ⟨⟨x1, x2⟩, xt, xd, xf, xx⟩ := x
      have hcell := Lib.hid hcell
      unfold wcs at hcell
      go_wp2_with (refine wpList_load_any rfl 50 (.tmp 10) rfl _ rfl _ _ hcell.out rfl rfl info_write ?_)
      all_goals
        go_roundg (l.length - (j + 1))
        case measure => omega
        case rel =>
          refine ⟨j + 1, by omega, by go_num, ?_, hbW.alloc hbW.size _⟩
          rw [hs.out]
          congr 1
          omega
    · go_wp2
      have e : j = l.length := by omega
      subst e
      rw [List.take_length]
      go_ret
      exact ⟨rfl, hbW⟩
end Go.Proofs.Ytokcohepkajloaa
