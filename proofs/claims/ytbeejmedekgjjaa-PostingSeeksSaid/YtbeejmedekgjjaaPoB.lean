/- Which postings may be: the walks of places, fits, Check. -/
import Derived.Test.YtbeejmedekgjjaaPoA
import Derived.Handy
namespace Go.Proofs.Ytbeejmedekgjjaa
open Go.RowKit
set_option linter.unusedVariables false
set_option linter.unusedSimpArgs false
set_option maxHeartbeats 1600000 in
theorem places_any (A : Option Addr) (c : Nat) (l : List Int) (w : World) (hr : Lies w A (l.map (Value.int .i64))) (hm : l.length ≤ 9223372036854775807) :
    Calls Try.prog 49 #[.slice A l.length c] w fun e w' => e = .returned (.bool (placesB l)) ∧ Below w.heap.size w w' := by
  have HR := Lib.hid hr
  clear hr
  go_enter Try.func49, Try.ntmps49
  go_wp2_with fail
  go_loopg [3, 8] l.length (fun r s3 i wr => ∃ j : Nat, j + r = l.length ∧ i = .int .i64 j ∧ s3 = .int .i64 (lastIn (-1) (l.take j)) ∧ upFrom (-1) 59 (l.take j) = true ∧ w = wr)
  case atStart => exact ⟨0, by omega, rfl, rfl, rfl, rfl⟩
  case round =>
    obtain ⟨j, hj, rfl, rfl, hu, rfl⟩ := hrel
    have HU := Lib.hid hu
    clear hu
    by_cases hjl : j < l.length
    · obtain ⟨a, rfl, hc⟩ := (HR.out).at (k := j) (by simpa using hjl)
      rw [List.getElem_map] at hc
      have HT := Lib.hid (take_snoc hjl)
      have HS := Lib.hid (upFrom_snoc 59 (l.take j) l[j] (-1))
      have HL := Lib.hid (lastIn_snoc (-1) (l.take j) l[j])
      have HP := Lib.hid (fun h => upFrom_stop (high := 59) (last := -1) hjl h)
      generalize l[j] = x at hc HT HS HL
      rw [← HT.out, HU.out, Bool.true_and] at HS
      rw [← HT.out] at HL
      clear HT HU
      have hj1 : decide ((j : Int) < (l.length : Int)) = true := decide_eq_true (by omega)
      obtain ⟨y, hy⟩ : ∃ y, lastIn (-1) (l.take j) = y := ⟨_, rfl⟩
      rw [hy] at HS ⊢
      clear hy
      by_cases h1 : y < x
      · by_cases h2 : x ≤ 59
        · have q1 : decide (x ≤ y) = false := decide_eq_false (by omega)
          have q2 : decide (x > 59) = false := decide_eq_false (by omega)
          have q3 : decide (59 < x) = false := decide_eq_false (by omega)
          have HS2 : Hid (upFrom (-1) 59 (l.take (j + 1)) = true) := by show _ = _; rw [HS.out]; simp [h1, h2]
          clear h1 h2 HS HP
          go_wp2_with fail
          go_roundg (l.length - (j + 1))
          case measure => omega
          case rel => exact ⟨j + 1, by omega, by go_num, by rw [HL.out], HS2.out, rfl⟩
        · have q1 : decide (x ≤ y) = false := decide_eq_false (by omega)
          have q2 : decide (x > 59) = true := decide_eq_true (by omega)
          have q3 : decide (59 < x) = true := decide_eq_true (by omega)
          have HS2 : Hid (placesB l = false) := by show _ = _; unfold placesB; rw [HP.out (by rw [HS.out]; simp [h2])]; rfl
          clear h1 h2 HS HP HL
          go_wp2_with fail
          go_returns
          exact ⟨by rw [HS2.out]; rfl, Below.refl _ _⟩
      · have q1 : decide (x ≤ y) = true := decide_eq_true (by omega)
        have HS2 : Hid (placesB l = false) := by show _ = _; unfold placesB; rw [HP.out (by rw [HS.out]; simp [h1])]; rfl
        clear h1 HS HP HL
        go_wp2_with fail
        go_returns
        exact ⟨by rw [HS2.out]; rfl, Below.refl _ _⟩
    · obtain rfl : j = l.length := by omega
      have HS2 : Hid (placesB l = decide (0 < l.length)) := by
        show _ = _
        unfold placesB
        have := HU.out
        rw [List.take_length] at this
        rw [this]
        cases l <;> simp
      clear HU
      go_wp2_with fail
      go_returns
      exact ⟨by rw [HS2.out]; simp, Below.refl _ _⟩
def spotsUp (l : List Spt) : Bool := l.all (fun s => placesB s.2) && upFrom 0 4 (l.map (·.1))
theorem spotsUp_snoc (l : List Spt) (s : Spt) : spotsUp (l ++ [s]) = (spotsUp l && (decide (lastIn 0 (l.map (·.1)) < s.1) && decide (s.1 ≤ 4) && placesB s.2)) := by
  unfold spotsUp
  rw [List.all_append, List.map_append, List.map_cons, List.map_nil, upFrom_snoc]
  simp only [List.all_cons, List.all_nil, Bool.and_true]
  cases l.all (fun s => placesB s.2) <;> cases upFrom 0 4 (l.map (·.1)) <;> cases placesB s.2 <;> simp
theorem all_stop {α : Type} {q : α → Bool} {l : List α} {n : Nat} (h : (l.take n).all q = false) : l.all q = false := by
  rw [← List.take_append_drop n l, List.all_append, h]
  rfl
theorem upFrom_cut {high last : Int} {l : List Int} {n : Nat} (h : upFrom last high (l.take n) = false) : upFrom last high l = false := by
  rw [← List.take_append_drop n l, upFrom_append, h]
  rfl
theorem spotsUp_stop {l : List Spt} {n : Nat} (h : spotsUp (l.take n) = false) : spotsUp l = false := by
  unfold spotsUp at *
  rw [Bool.and_eq_false_iff] at *
  rw [List.map_take] at h
  rcases h with h | h
  · exact .inl (all_stop h)
  · exact .inr (upFrom_cut h)
theorem spotsB_eq (l : List Spt) : spotsB l = (spotsUp l && !l.isEmpty) := rfl
set_option maxRecDepth 100000 in
set_option maxHeartbeats 3200000 in
theorem fits_any (p : LPost) (w : World) (h : p.In w) :
    Calls Try.prog 31 #[.agg #[.int .i64 p.d, .slice p.S p.spots.length p.c]] w fun e w' => e = .returned (.bool (fitsB p.p)) ∧ Below w.heap.size w w' := by
  obtain ⟨d, S, c, ls⟩ := p
  have hb0 : Below w.heap.size w (w.alloc (.cells #[.int .i64 d, .slice S ls.length c] 40)) := (Below.refl _ _).alloc (Nat.le_refl _) _
  have x0 : (w.alloc (.cells #[.int .i64 d, .slice S ls.length c] 40)).cell? ⟨w.heap.size, 0, none⟩ = some (.int .i64 d) := by go_cell
  have x1 : (w.alloc (.cells #[.int .i64 d, .slice S ls.length c] 40)).cell? ⟨w.heap.size, 1, none⟩ = some (.slice S ls.length c) := by go_cell
  have hI := h.below hb0
  have hsz : w.heap.size < (w.alloc (.cells #[.int .i64 d, .slice S ls.length c] 40)).heap.size := by simp
  have HB0 := Lib.hid hb0
  have HIs := Lib.hid hI.s
  have HLi := Lib.hid hI.li
  have hm : ls.length ≤ 9223372036854775807 := h.m
  have HF : Hid (fitsB (LPost.p ⟨d, S, c, ls⟩) = (spotsUp (ls.map LSpot.p) && decide (0 < ls.length) && decide (0 ≤ d) && decide (d < 65536))) := by
    show _ = _
    show (spotsB (ls.map LSpot.p) && decide (0 ≤ d) && decide (d < 65536)) = _
    rw [spotsB_eq]
    congr 3
    cases ls <;> simp
  have hlE : (LPost.mk d S c ls).spots.length = ls.length := rfl
  clear h hb0 hI
  go_enter Try.func31, Try.ntmps31
  go_wp2_with fail
  generalize w.alloc (.cells #[.int .i64 d, .slice S ls.length c] 40) = w0 at *
  obtain ⟨q, hq⟩ : ∃ q, q = w.heap.size := ⟨_, rfl⟩
  rw [← hq] at x0 x1 hsz ⊢
  clear hq hlE
  have hsw : w.heap.size ≤ w0.heap.size := HB0.out.size
  go_loopg [3, 9] ls.length (fun r s3 i wr => ∃ j : Nat, j + r = ls.length ∧ i = .int .i64 j ∧ s3 = .int .i64 (lastIn 0 (((ls.take j).map LSpot.p).map (·.1))) ∧ spotsUp ((ls.take j).map LSpot.p) = true ∧ Below w0.heap.size w0 wr)
  case atStart => exact ⟨0, by omega, rfl, rfl, rfl, Below.refl _ _⟩
  case round =>
    obtain ⟨j, hj, rfl, rfl, hu, hb⟩ := hrel
    have HU := Lib.hid hu
    clear hu
    have y0 : wr.cell? ⟨q, 0, none⟩ = some (.int .i64 d) := by rw [hb.cell hsz]; exact x0
    have y1 : wr.cell? ⟨q, 1, none⟩ = some (.slice S ls.length c) := by rw [hb.cell hsz]; exact x1
    by_cases hjl : j < ls.length
    · obtain ⟨a, rfl, hc⟩ := flat_get sk_length (by decide) (HLi.out.below hb) j hjl
      have hk := (HIs.out _ (List.getElem_mem hjl)).below hb
      have hT : (ls.take (j + 1)).map LSpot.p = (ls.take j).map LSpot.p ++ [LSpot.p ls[j]] := by rw [take_snoc hjl, List.map_append]; rfl
      have HP : Hid (spotsUp ((ls.take (j + 1)).map LSpot.p) = false → spotsUp (ls.map LSpot.p) = false) := fun h => spotsUp_stop (n := j + 1) (by rw [← List.map_take]; exact h)
      generalize ls[j] = s at hc hk hT
      have HS := Lib.hid (spotsUp_snoc ((ls.take j).map LSpot.p) (LSpot.p s))
      rw [← hT, HU.out, Bool.true_and] at HS
      have HL := Lib.hid (lastIn_snoc 0 (((ls.take j).map LSpot.p).map (·.1)) s.f)
      have hT2 : ((ls.take (j + 1)).map LSpot.p).map (·.1) = ((ls.take j).map LSpot.p).map (·.1) ++ [s.f] := by rw [hT, List.map_append]; rfl
      rw [← hT2] at HL
      have e1 : (LSpot.p s).1 = s.f := rfl
      have e2 : (LSpot.p s).2 = s.l := rfl
      rw [e1, e2] at HS
      clear hT hT2 HU e1 e2
      unfold sk at hc
      have HC := Lib.hid hc
      clear hc
      have hj1 : decide ((j : Int) < (ls.length : Int)) = true := decide_eq_true (by omega)
      obtain ⟨y, hy⟩ : ∃ y, lastIn 0 (((ls.take j).map LSpot.p).map (·.1)) = y := ⟨_, rfl⟩
      rw [hy] at HS ⊢
      clear hy
      go_upto_region 5 with (refine wpList_load_any rfl 46 (.tmp 11) rfl _ rfl _ _ HC.out rfl rfl info_spot ?_)
      have hb5 : Below wr.heap.size wr (wr.alloc (.cells #[.int .i64 s.f, .slice s.A s.l.length s.c] 46)) := (Below.refl _ _).alloc (Nat.le_refl _) _
      have z0 : (wr.alloc (.cells #[.int .i64 s.f, .slice s.A s.l.length s.c] 46)).cell? ⟨wr.heap.size, 0, none⟩ = some (.int .i64 s.f) := by go_cell
      have z1 : (wr.alloc (.cells #[.int .i64 s.f, .slice s.A s.l.length s.c] 46)).cell? ⟨wr.heap.size, 1, none⟩ = some (.slice s.A s.l.length s.c) := by go_cell
      have hN5 : wr.heap.size < (wr.alloc (.cells #[.int .i64 s.f, .slice s.A s.l.length s.c] 46)).heap.size := by simp
      have hk5 := hk.below hb5
      have hb05 := hb.trans (hb5.mono hb.size)
      have HPl := Lib.hid (places_any s.A s.c s.l _ hk5.li hk5.m)
      generalize (wr.alloc (.cells #[.int .i64 s.f, .slice s.A s.l.length s.c] 46)) = W5 at z0 z1 hb05 HPl hN5 ⊢
      generalize wr.heap.size = N5 at z0 z1 hN5 ⊢
      clear hb5 hk hk5 HC hb y0 y1
      by_cases h1 : y < s.f
      · by_cases h2 : s.f ≤ 4
        · have q1 : decide (s.f ≤ y) = false := decide_eq_false (by omega)
          have q2 : decide (s.f > 4) = false := decide_eq_false (by omega)
          have q3 : decide (4 < s.f) = false := decide_eq_false (by omega)
          cases h3 : placesB s.l with
          | true =>
            have HS2 : Hid (spotsUp ((ls.take (j + 1)).map LSpot.p) = true) := by show _ = _; rw [HS.out]; simp [h1, h2, h3]
            rw [h3] at HPl
            clear h1 h2 h3 HS HP
            go_wp2_with (go_at_call 49; refine HPl.out.mono ?_; rintro e w6 ⟨rfl, hb6⟩
                         have z06 : w6.cell? ⟨N5, 0, none⟩ = some (.int .i64 s.f) := by rw [hb6.cell hN5]; exact z0)
            go_roundg (ls.length - (j + 1))
            case measure => omega
            case rel => exact ⟨j + 1, by omega, by go_num, by rw [HL.out], HS2.out, hb05.trans (hb6.mono hb05.size)⟩
          | false =>
            have HS2 : Hid (fitsB (LPost.p ⟨d, some a, c, ls⟩) = false) := by show _ = _; rw [HF.out, HP.out (by rw [HS.out]; simp [h3])]; rfl
            rw [h3] at HPl
            clear h1 h2 h3 HS HP HL
            go_wp2_with (go_at_call 49; refine HPl.out.mono ?_; rintro e w6 ⟨rfl, hb6⟩)
            go_returns
            exact ⟨by rw [HS2.out]; rfl, HB0.out.trans ((hb05.trans (hb6.mono hb05.size)).mono hsw)⟩
        · have q1 : decide (s.f ≤ y) = false := decide_eq_false (by omega)
          have q2 : decide (s.f > 4) = true := decide_eq_true (by omega)
          have q3 : decide (4 < s.f) = true := decide_eq_true (by omega)
          have HS2 : Hid (fitsB (LPost.p ⟨d, some a, c, ls⟩) = false) := by show _ = _; rw [HF.out, HP.out (by rw [HS.out]; simp [h2])]; rfl
          clear h1 h2 HS HP HL HPl
          go_wp2_with fail
          go_returns
          exact ⟨by rw [HS2.out]; rfl, HB0.out.trans (hb05.mono hsw)⟩
      · have q1 : decide (s.f ≤ y) = true := decide_eq_true (by omega)
        have HS2 : Hid (fitsB (LPost.p ⟨d, some a, c, ls⟩) = false) := by show _ = _; rw [HF.out, HP.out (by rw [HS.out]; simp [h1])]; rfl
        clear h1 HS HP HL HPl
        go_wp2_with fail
        go_returns
        exact ⟨by rw [HS2.out]; rfl, HB0.out.trans (hb05.mono hsw)⟩
    · obtain rfl : j = ls.length := by omega
      have HS2 : Hid (fitsB (LPost.p ⟨d, S, c, ls⟩) = (decide (0 ≤ d) && decide (d < 65536) && decide (0 < ls.length))) := by
        show _ = _
        have := HU.out
        rw [List.take_length] at this
        rw [HF.out, this, Bool.true_and, Bool.and_assoc, Bool.and_comm]
      clear HU
      by_cases h1 : 0 ≤ d
      · by_cases h2 : d < 65536
        · have q1 : decide (d ≥ 0) = true := decide_eq_true h1
          have q1' : decide (0 ≤ d) = true := decide_eq_true h1
          have q2 : decide (d < 65536) = true := decide_eq_true h2
          clear h1 h2
          go_wp2_with fail
          go_returns
          exact ⟨by rw [HS2.out, q1', q2]; simp, HB0.out.trans (hb.mono hsw)⟩
        · have q1 : decide (d ≥ 0) = true := decide_eq_true h1
          have q1' : decide (0 ≤ d) = true := decide_eq_true h1
          have q2 : decide (d < 65536) = false := decide_eq_false h2
          clear h1 h2
          go_wp2_with fail
          go_returns
          exact ⟨by rw [HS2.out, q1', q2]; rfl, HB0.out.trans (hb.mono hsw)⟩
      · have q1 : decide (d ≥ 0) = false := decide_eq_false h1
        have q1' : decide (0 ≤ d) = false := decide_eq_false h1
        clear h1
        go_wp2_with fail
        go_returns
        exact ⟨by rw [HS2.out, q1']; rfl, HB0.out.trans (hb.mono hsw)⟩
end Go.Proofs.Ytbeejmedekgjjaa
