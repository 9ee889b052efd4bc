/- The walk of few: it answers, whatever it answers. -/
import Derived.Test.YtbeejmedekgjjaaPoB
namespace Go.Proofs.Ytbeejmedekgjjaa
open Go.RowKit
set_option linter.unusedVariables false
set_option linter.unusedSimpArgs false
/-- It answers yes or no. -/
def IsB (e : Ending) : Prop := ∃ b, e = .returned (.bool b)
set_option maxRecDepth 100000 in
set_option maxHeartbeats 3200000 in
theorem few_any (A : Option Addr) (c : Nat) (ls : List LPost) (w : World) (h : Posts w A c ls) :
    Calls Try.prog 6 #[.slice A ls.length c] w fun e w' => IsB e ∧ w = w' := by
  have HLi := Lib.hid h.li
  have HIs := Lib.hid h.i
  have hm := h.m
  clear h
  go_enter Try.func6, Try.ntmps6
  go_wp2_with fail
  go_loopg [3, 4] ls.length (fun r s3 s4 wr => ∃ (j : Nat) (z : Int), j + r = ls.length ∧ s4 = .int .i64 j ∧ s3 = .int .i64 z ∧ wr = w)
  case atStart => exact ⟨0, 0, by omega, rfl, rfl, rfl⟩
  case round =>
    obtain ⟨j, z, hj, rfl, rfl, rfl⟩ := hrel
    by_cases hjl : j < ls.length
    · have hj1 : decide ((j : Int) < (ls.length : Int)) = true := decide_eq_true (by omega)
      by_cases hj6 : j ≤ 60
      · obtain ⟨a, rfl, hc⟩ := flat_get pk_length (by decide) HLi.out j hjl
        have hk := HIs.out _ (List.getElem_mem hjl)
        generalize ls[j] = p at hc hk
        obtain ⟨x, S, cS, sp⟩ := p
        have k1 : wr.cell? ((a.add (j * 2)).add 1) = some (.slice S sp.length cS) := hc 1 _ rfl
        have k1' : wr.cell? ⟨(a.add (j * 2)).block, (a.add (j * 2)).off + 1, none⟩ = some (.slice S sp.length cS) := k1
        have hkl := Lib.hid hk.li
        have hks := Lib.hid hk.s
        have hkm : sp.length ≤ 9223372036854775807 := hk.m
        have hj2 : (j : Int) < (ls.length : Int) := by omega
        have hj3 : decide ((j : Int) ≤ 60) = true := decide_eq_true (by omega)
        clear hc hk
        go_wp2_with fail
        go_loopg [3, 5] sp.length (fun r s3 s5 wy => ∃ (k : Nat) (z : Int), k + r = sp.length ∧ s5 = .int .i64 k ∧ s3 = .int .i64 z ∧ wy = wr)
        case atStart => exact ⟨0, _, by omega, rfl, rfl, rfl⟩
        case round =>
          obtain ⟨k, z3, hk, rfl, rfl, rfl⟩ := hrel
          by_cases hkl2 : k < sp.length
          · have hj5 : decide ((k : Int) < (sp.length : Int)) = true := decide_eq_true (by omega)
            by_cases hk1 : k < 100
            · obtain ⟨a2, rfl, hc⟩ := flat_get sk_length (by decide) hkl.out k hkl2
              have hk2 := hks.out _ (List.getElem_mem hkl2)
              generalize sp[k] = q at hc hk2
              obtain ⟨f, Aq, cq, lq⟩ := q
              have k2 : wr.cell? ((a2.add (k * 2)).add 1) = some (.slice Aq lq.length cq) := hc 1 _ rfl
              have k2' : wr.cell? ⟨(a2.add (k * 2)).block, (a2.add (k * 2)).off + 1, none⟩ = some (.slice Aq lq.length cq) := k2
              have hj6' : (k : Int) < (sp.length : Int) := by omega
              have hj7 : decide ((k : Int) < 100) = true := decide_eq_true (by omega)
              clear hc hk2
              go_wp2_with fail
              go_roundg (sp.length - (k + 1))
              case measure => omega
              case rel => exact ⟨k + 1, _, by omega, by go_num, rfl, rfl⟩
            · have hj7 : decide ((k : Int) < 100) = false := decide_eq_false (by omega)
              go_wp2_with fail
              go_roundg (ls.length - (j + 1))
              case measure => omega
              case rel => exact ⟨j + 1, z3, by omega, by go_num, rfl, rfl⟩
          · have hj5 : decide ((k : Int) < (sp.length : Int)) = false := decide_eq_false (by omega)
            go_wp2_with fail
            go_roundg (ls.length - (j + 1))
            case measure => omega
            case rel => exact ⟨j + 1, z3, by omega, by go_num, rfl, rfl⟩
      · have hj3 : decide ((j : Int) ≤ 60) = false := decide_eq_false (by omega)
        by_cases h60 : ls.length ≤ 60
        · have d6 : decide ((ls.length : Int) ≤ 60) = true := decide_eq_true (by omega)
          by_cases hz : z ≤ 1000
          · have d7 : decide (z ≤ 1000) = true := decide_eq_true hz
            go_wp2_with fail
            go_returns
            exact ⟨⟨_, rfl⟩, rfl⟩
          · have d7 : decide (z ≤ 1000) = false := decide_eq_false hz
            go_wp2_with fail
            go_returns
            exact ⟨⟨_, rfl⟩, rfl⟩
        · have d6 : decide ((ls.length : Int) ≤ 60) = false := decide_eq_false (by omega)
          go_wp2_with fail
          go_returns
          exact ⟨⟨_, rfl⟩, rfl⟩
    · have hj1 : decide ((j : Int) < (ls.length : Int)) = false := decide_eq_false (by omega)
      by_cases h60 : ls.length ≤ 60
      · have d6 : decide ((ls.length : Int) ≤ 60) = true := decide_eq_true (by omega)
        by_cases hz : z ≤ 1000
        · have d7 : decide (z ≤ 1000) = true := decide_eq_true hz
          go_wp2_with fail
          go_returns
          exact ⟨⟨_, rfl⟩, rfl⟩
        · have d7 : decide (z ≤ 1000) = false := decide_eq_false hz
          go_wp2_with fail
          go_returns
          exact ⟨⟨_, rfl⟩, rfl⟩
      · have d6 : decide ((ls.length : Int) ≤ 60) = false := decide_eq_false (by omega)
        go_wp2_with fail
        go_returns
        exact ⟨⟨_, rfl⟩, rfl⟩
end Go.Proofs.Ytbeejmedekgjjaa
