/- One that goes through postings, in memory: its small calls. -/
import Derived.Test.YtbeejmedekgjjaaPoI
import Derived.Test.YtbeejmedekgjjaaOne
import Derived.Deep.RegionLaw
import Derived.Deep.Cut
namespace Go.Proofs.Ytbeejmedekgjjaa
open Go.RowKit
set_option linter.unusedVariables false
set_option linter.unusedSimpArgs false
/-- w' is w but for these blocks, and new ones. -/
structure Only (w w' : World) (S : List Nat) : Prop where
  os : w'.os = w.os
  tape : w'.tape = w.tape
  output : w'.output = w.output
  size : w.heap.size ≤ w'.heap.size
  block : ∀ i, i < w.heap.size → i ∉ S → w'.heap[i]? = w.heap[i]?
theorem Only.refl (w : World) (S : List Nat) : Only w w S := ⟨rfl, rfl, rfl, Nat.le_refl _, fun _ _ _ => rfl⟩
theorem Only.trans {a b c : World} {S : List Nat} (h : Only a b S) (k : Only b c S) : Only a c S :=
  ⟨k.os.trans h.os, k.tape.trans h.tape, k.output.trans h.output, Nat.le_trans h.size k.size, fun i hi hn => (k.block i (Nat.lt_of_lt_of_le hi h.size) hn).trans (h.block i hi hn)⟩
theorem Only.mono {a b : World} {S T : List Nat} (h : Only a b S) (hs : ∀ i ∈ S, i ∈ T) : Only a b T := ⟨h.os, h.tape, h.output, h.size, fun i hi hn => h.block i hi (fun e => hn (hs i e))⟩
theorem Only.of_grown {a b : World} {r : Nat} (h : a.grownBy b (some r)) : Only a b [r] := ⟨h.os, h.tape, h.output, h.size, fun i hi hn => h.block i hi (fun e => hn (by injection e with e; rw [e]; exact List.mem_singleton.2 rfl))⟩
theorem Only.of_below {a b : World} (h : Below a.heap.size a b) (S : List Nat) : Only a b S := ⟨h.os, h.tape, h.output, h.size, fun i hi _ => h.block i hi⟩
theorem Only.grown {a b : World} {r : Nat} (h : Only a b [r]) : a.grownBy b (some r) := ⟨h.os, h.tape, h.output, h.size, fun i hi hn => h.block i hi (fun e => hn (by rw [List.mem_singleton.1 e]))⟩
theorem Only.below {a b : World} {S : List Nat} {B : Nat} (h : Only a b S) (hs : ∀ i ∈ S, B ≤ i) (hB : B ≤ a.heap.size) : Below B a b :=
  ⟨h.os, h.tape, h.output, h.size, fun i hi => h.block i (Nat.lt_of_lt_of_le hi hB) (fun e => by have := hs i e; omega)⟩
theorem Only.alike {a b c : World} {S : List Nat} (h : Only a b S) (e : Below b.heap.size b c) : Only a c S := h.trans (.of_below e S)
/-- One that goes through postings: in block t; its readers in blocks g and r. -/
structure ItAt (w : World) (t g r : Nat) (it : It) : Prop where
  blk : w.heap[t]? = some (.cells #[.pointer (some ⟨g, 0, none⟩), .pointer (some ⟨r, 0, none⟩), .int .i64 it.left, .int .i64 it.inn, .int .i64 it.last, .int .i64 it.top, .bool it.bad] 66 (0, 0))
  rg : RdS w g it.runs
  rr : RdS w r it.run
  tg : t ≠ g
  tr : t ≠ r
  gr : g ≠ r
theorem noBytes_it {w : World} {t g r : Nat} {a b c d : Int} {x : Bool} {ty : TypeId} {f : Nat × Nat} (h : w.heap[t]? = some (.cells #[.pointer (some ⟨g, 0, none⟩), .pointer (some ⟨r, 0, none⟩), .int .i64 a, .int .i64 b, .int .i64 c, .int .i64 d, .bool x] ty f)) : NoBytes w t :=
  ⟨_, _, _, h, by simp⟩
theorem ItAt.below {w w' : World} {t g r : Nat} {it : It} (h : ItAt w t g r it) (hb : Below w.heap.size w w') : ItAt w' t g r it :=
  ⟨(hb.block t (blk_lt h.blk)).trans h.blk, h.rg.below hb, h.rr.below hb, h.tg, h.tr, h.gr⟩
theorem ItAt.lt {w : World} {t g r : Nat} {it : It} (h : ItAt w t g r it) : t < w.heap.size ∧ g < w.heap.size ∧ r < w.heap.size := ⟨blk_lt h.blk, h.rg.lt, h.rr.lt⟩
set_option maxHeartbeats 1600000 in
theorem alive_any (t g r : Nat) (it : It) (w : World) (h : ItAt w t g r it) :
    Calls Try.prog 35 #[.pointer (some ⟨t, 0, none⟩)] w fun e w' => e = .returned (.bool it.alive) ∧ w = w' := by
  have HE := Lib.hid (serr g it.runs w h.rg)
  have k0 : w.cell? ⟨t, 0, none⟩ = some (.pointer (some ⟨g, 0, none⟩)) := blk_cell h.blk
  have k2 : w.cell? ⟨t, 2, none⟩ = some (.int .i64 it.left) := blk_cell h.blk
  have k6 : w.cell? ⟨t, 6, none⟩ = some (.bool it.bad) := blk_cell h.blk
  have HA := Lib.hid (show it.alive = (!it.bad && it.runs.isSome && decide (0 < it.left)) from rfl)
  clear h
  cases hbad : it.bad with
  | true =>
    rw [hbad] at k6
    have HA2 : Hid (it.alive = false) := by show _ = _; rw [HA.out, hbad]; rfl
    clear HA hbad
    go_enter Try.func35, Try.ntmps35
    go_wp2_with fail
    go_returns
    exact ⟨by rw [HA2.out]; rfl, rfl⟩
  | false =>
    rw [hbad] at k6
    cases hs : it.runs.isSome with
    | false =>
      have HA2 : Hid (it.alive = false) := by show _ = _; rw [HA.out, hs]; simp
      rw [hs] at HE
      clear HA hbad hs
      go_enter Try.func35, Try.ntmps35
      go_wp2_with (go_at_call 39; refine HE.out.mono ?_; rintro e w1 ⟨c, rfl, _, hc, rfl⟩
                   have hc0 := hc (by first | rfl | trivial)
                   have hcq : ((c : Int) == 0) = false := beq_eq_false_iff_ne.mpr (by omega))
      go_returns
      exact ⟨by rw [HA2.out]; rfl, rfl⟩
    | true =>
      have HA2 : Hid (it.alive = decide (0 < it.left)) := by show _ = _; rw [HA.out, hs, hbad]; simp
      rw [hs] at HE
      clear HA hbad hs
      go_enter Try.func35, Try.ntmps35
      go_wp2_with (go_at_call 39; refine HE.out.mono ?_; rintro e w1 ⟨c, rfl, hc, _, rfl⟩
                   obtain rfl := hc (by first | rfl | trivial))
      go_returns
      exact ⟨by rw [HA2.out]; simp, rfl⟩
set_option maxRecDepth 100000 in
set_option maxHeartbeats 1600000 in
theorem bad_any (t g r : Nat) (it : It) (w : World) (h : ItAt w t g r it) (hl : OLen it.runs) :
    Calls Try.prog 19 #[.pointer (some ⟨t, 0, none⟩)] w fun e w' => e = .returned (.bool it.isBad) ∧ w = w' := by
  have HE := Lib.hid (serr g it.runs w h.rg)
  have HN := Lib.hid (send g it.runs w h.rg hl)
  have k0 : w.cell? ⟨t, 0, none⟩ = some (.pointer (some ⟨g, 0, none⟩)) := blk_cell h.blk
  have k2 : w.cell? ⟨t, 2, none⟩ = some (.int .i64 it.left) := blk_cell h.blk
  have k6 : w.cell? ⟨t, 6, none⟩ = some (.bool it.bad) := blk_cell h.blk
  have HA := Lib.hid (show it.isBad = (it.bad || !it.runs.isSome || (decide (it.left = 0) && !overS it.runs)) from rfl)
  clear h
  cases hbad : it.bad with
  | true =>
    rw [hbad] at k6
    have HA2 : Hid (it.isBad = true) := by show _ = _; rw [HA.out, hbad]; rfl
    clear HA hbad
    go_enter Try.func19, Try.ntmps19
    go_wp2_with fail
    go_returns
    exact ⟨by rw [HA2.out]; rfl, rfl⟩
  | false =>
    rw [hbad] at k6
    cases hs : it.runs.isSome with
    | false =>
      have HA2 : Hid (it.isBad = true) := by show _ = _; rw [HA.out, hs]; simp
      rw [hs] at HE
      clear HA hbad hs
      go_enter Try.func19, Try.ntmps19
      go_wp2_with (go_at_call 39; refine HE.out.mono ?_; rintro e w1 ⟨c, rfl, _, hc, rfl⟩
                   have hc0 := hc (by first | rfl | trivial)
                   have hcq : ((c : Int) == 0) = false := beq_eq_false_iff_ne.mpr (by omega))
      go_returns
      exact ⟨by rw [HA2.out]; rfl, rfl⟩
    | true =>
      rw [hs] at HE
      by_cases h0 : it.left = 0
      · have q0 : ((it.left : Int) == 0) = true := beq_iff_eq.mpr (by omega)
        cases ho : overS it.runs with
        | true =>
          have HA2 : Hid (it.isBad = false) := by show _ = _; rw [HA.out, hs, hbad, ho]; simp
          rw [ho] at HN
          clear HA hbad hs ho h0
          go_enter Try.func19, Try.ntmps19
          go_wp2_with (first
            | (go_at_call 39; refine HE.out.mono ?_; rintro e w1 ⟨c, rfl, hc, _, rfl⟩
               obtain rfl := hc (by first | rfl | trivial))
            | (go_at_call 40; refine HN.out.mono ?_; rintro e w1 ⟨c, rfl, hc, _, rfl⟩
               obtain rfl := hc (by first | rfl | trivial)))
          go_returns
          exact ⟨by rw [HA2.out]; rfl, rfl⟩
        | false =>
          have HA2 : Hid (it.isBad = true) := by show _ = _; rw [HA.out, hs, hbad, ho, h0]; simp
          rw [ho] at HN
          clear HA hbad hs ho h0
          go_enter Try.func19, Try.ntmps19
          go_wp2_with (first
            | (go_at_call 39; refine HE.out.mono ?_; rintro e w1 ⟨c, rfl, hc, _, rfl⟩
               obtain rfl := hc (by first | rfl | trivial))
            | (go_at_call 40; refine HN.out.mono ?_; rintro e w1 ⟨c, rfl, _, hc, rfl⟩
               have hc0 := hc (by first | rfl | trivial)
               have hcq : ((c : Int) == 0) = false := beq_eq_false_iff_ne.mpr (by omega)))
          go_returns
          exact ⟨by rw [HA2.out]; show Ending.returned (Value.bool ((c : Int) != 0)) = _; rw [bne, hcq]; rfl, rfl⟩
      · have q0 : ((it.left : Int) == 0) = false := beq_eq_false_iff_ne.mpr (by omega)
        have HA2 : Hid (it.isBad = false) := by show _ = _; rw [HA.out, hs, hbad]; simp [h0]
        clear HA hbad hs HN
        go_enter Try.func19, Try.ntmps19
        go_wp2_with (go_at_call 39; refine HE.out.mono ?_; rintro e w1 ⟨c, rfl, hc, _, rfl⟩
                     obtain rfl := hc (by first | rfl | trivial))
        go_returns
        exact ⟨by rw [HA2.out]; rfl, rfl⟩
end Go.Proofs.Ytbeejmedekgjjaa
