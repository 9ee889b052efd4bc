/- One that goes through postings: the walk of Next. -/
import Derived.Test.YtbeejmedekgjjaaPoN
namespace Go.Proofs.Ytbeejmedekgjjaa
open Go.RowKit
set_option linter.unusedVariables false
set_option linter.unusedSimpArgs false
theorem ItAt.only {w w' : World} {t g r : Nat} {it : It} {S : List Nat} (h : ItAt w t g r it) (hg : Only w w' S) (ht : t ∉ S) (hgS : g ∉ S) (hrS : r ∉ S) (hk : ∀ k ∈ S, NoBytes w k) : ItAt w' t g r it :=
  ⟨(hg.block t h.lt.1 ht).trans h.blk, h.rg.only hk hgS hg, h.rr.only hk hrS hg, h.tg, h.tr, h.gr⟩
theorem It.alive_not {t : It} (h : t.alive = true) : t.bad = false ∧ 0 < t.left := by
  unfold It.alive at h
  simp only [Bool.and_eq_true, Bool.not_eq_true', decide_eq_true_eq] at h
  exact ⟨h.1.1, h.2⟩
theorem It.Ok.ready {t : It} (h : t.Ok) (ha : t.alive = true) : t.ready.Ok ∧ 0 < t.ready.inn := by
  obtain ⟨hb, hl⟩ := It.alive_not ha
  unfold It.ready
  split
  · refine ⟨h.turn hb, ?_⟩
    show 0 < min t.left 4
    omega
  · exact ⟨h, by omega⟩
theorem It.Ok.next {t : It} (h : t.Ok) : t.nextIt.Ok := by
  unfold It.nextIt
  split
  next ha =>
    obtain ⟨h1, h2⟩ := h.ready ha
    split
    · exact h1
    next hb => exact h1.after (by simpa using hb) h2
  · exact h
theorem LPost.In.only {p : LPost} {w w' : World} {S : List Nat} {base : Nat} (h : p.In w) (hg : Only w w' S) (hf : p.From base w) (hS : ∀ i ∈ S, i < base) : p.In w' :=
  ⟨lies_only h.li hg (fun a ha hm => by have := hf.1 a ha; have := hS _ hm; omega), h.c, h.m, fun s hs => (h.s s hs).only hg (fun a ha hm => by have := hf.2 s hs a ha; have := hS _ hm; omega), h.d⟩
theorem LPost.From.later {p : LPost} {b b' : Nat} {w w' : World} (h : p.From b w) (hs : w.heap.size ≤ w'.heap.size) (hb : b' ≤ b) : p.From b' w' :=
  ⟨fun a ha => ⟨Nat.le_trans hb (h.1 a ha).1, Nat.lt_of_lt_of_le (h.1 a ha).2 hs⟩, fun s hs' a ha => ⟨Nat.le_trans hb (h.2 s hs' a ha).1, Nat.lt_of_lt_of_le (h.2 s hs' a ha).2 hs⟩⟩
set_option maxRecDepth 100000 in
set_option maxHeartbeats 3200000 in
theorem next_any (t g r : Nat) (it : It) (w : World) (h : ItAt w t g r it) (ho : it.Ok) :
    Calls Try.prog 17 #[.pointer (some ⟨t, 0, none⟩)] w fun e w' => ∃ r', ItAt w' t g r' it.nextIt ∧ (r' = r ∨ w.heap.size ≤ r') ∧ Only w w' [t, g, r] ∧
      (it.nextP = none → e = .returned (.tuple #[.agg #[.int .i64 0, .slice none 0 0], .bool false])) ∧
      (∀ q, it.nextP = some q → ∃ p : LPost, e = .returned (.tuple #[.agg #[.int .i64 p.d, .slice p.S p.spots.length p.c], .bool true]) ∧ p.In w' ∧ p.p = q ∧ ∃ b, r' < b ∧ w.heap.size ≤ b ∧ p.From b w') := by
  have hbA := (Below.refl w.heap.size w).alloc (Nat.le_refl _) (.cells #[.int .i64 0, .slice none 0 0] 40)
  have hA := h.below hbA
  have hpA := heap_alloc_new w (.cells #[.int .i64 0, .slice none 0 0] 40)
  have hlt := h.lt
  clear h
  go_enter Try.func17, Try.ntmps17
  go_wp2_with fail
  generalize w.alloc (.cells #[.int .i64 0, .slice none 0 0] 40) = wA at *
  have hlp := blk_lt hpA
  have HAl := Lib.hid (alive_any t g r it wA hA)
  cases hal : it.alive with
  | false =>
    rw [hal] at HAl
    have HN1 : Hid (it.nextIt = it) := by show _ = _; unfold It.nextIt; rw [hal]; rfl
    have HN2 : Hid (it.nextP = none) := by show _ = _; unfold It.nextP; rw [hal]; rfl
    have kp0 : wA.cell? ⟨w.heap.size, 0, none⟩ = some (.int .i64 0) := blk_cell hpA
    have kp1 : wA.cell? ⟨w.heap.size, 1, none⟩ = some (.slice none 0 0) := blk_cell hpA
    have fp : ∀ k, wA.frozen? ⟨w.heap.size, k, none⟩ = false := fun k => blk_free hpA
    have HhA := Lib.hid hA
    clear hA hal ho
    go_wp2_with (go_at_call 35; refine HAl.out.mono ?_; rintro e1 w1 ⟨rfl, rfl⟩)
    have hp6 := heap_setCell_same wA _ 0 _ _ (.int .i64 0) hpA
    refine bodyPost_ret (results_row_tmp rfl _ _ w.heap.size 40 _ (0, 0) _ (.bool false) rfl rfl (heap_setCell_same _ _ 1 _ _ _ hp6) Try.underlying40 rfl (by kernel_rfl)) rfl ?_
    have hOw : Only wA ((wA.setCell ⟨w.heap.size, 0, none⟩ (.int .i64 0)).setCell ⟨w.heap.size, 1, none⟩ (.slice none 0 0)) [w.heap.size] := ((Only.of_grown (Lib.grownBy_setCell wA w.heap.size 0 _)).mono (by simp)).trans ((Only.of_grown (Lib.grownBy_setCell _ w.heap.size 1 _)).mono (by simp))
    rw [HN1.out, HN2.out]
    exact ⟨r, HhA.out.only hOw (by simp; omega) (by simp; omega) (by simp; omega) (by intro k hk; simp at hk; subst hk; exact ⟨_, _, _, hpA, by simp⟩), .inl rfl, (Only.of_below hbA _).fresh hOw (by intro i hi hlt; simp at hi; omega), fun _ => rfl, fun q hq => by cases hq⟩
  | true =>
    rw [hal] at HAl
    obtain ⟨hnb, hl0⟩ := It.alive_not hal
    obtain ⟨hro, hri⟩ := ho.ready hal
    have HN1 : Hid (it.nextIt = if it.ready.bad then it.ready else it.ready.after) := by show _ = _; unfold It.nextIt; rw [hal]; rfl
    have HN2 : Hid (it.nextP = if it.ready.bad then none else if it.ready.fails then none else some (postS it.ready.last it.ready.run).1) := by show _ = _; unfold It.nextP; rw [hal]; rfl
    have hO := Only.of_below hbA [t, g, r]
    have HT := Lib.hid (turn_any t g r it wA hA ho hnb)
    have k3 : wA.cell? ⟨t, 3, none⟩ = some (.int .i64 it.inn) := blk_cell hA.blk
    have HhA := Lib.hid hA
    have HR : Hid (it.ready = if it.inn = 0 then it.turn else it) := rfl
    obtain ⟨rd, hrd⟩ : ∃ rd, it.ready = rd := ⟨_, rfl⟩
    rw [hrd] at HN1 HN2 hro hri HR
    have hbS := hbA.size
    clear hal ho hA hrd
    go_upto_if 12 with (go_at_call 35; refine HAl.out.mono ?_; rintro e1 w1 ⟨rfl, rfl⟩)
    go_cut [0, 2, 3] from 4 (fun s0 s2 s3 wc => s0 = .pointer (some ⟨t, 0, none⟩) ∧ s2 = .pointer (some ⟨w.heap.size, 0, none⟩) ∧ s3 = .bool false ∧ ∃ r', ItAt wc t g r' rd ∧ (r' = r ∨ wA.heap.size ≤ r') ∧ wc.heap[w.heap.size]? = some (.cells #[.int .i64 0, .slice none 0 0] 40 (0, 0)) ∧ Only w wc [t, g, r])
    case first =>
      by_cases hz : it.inn = 0
      · have hz2 : it.inn = 0 := hz
        have qz : ((it.inn : Int) == 0) = true := beq_iff_eq.mpr (by omega)
        have qz2 : (it.inn : Int) = 0 := by omega
        have HRd : Hid (rd = it.turn) := by show _ = _; rw [HR.out, if_pos hz]
        clear HR hz hz2
        go_wp2_with (go_at_call 36; refine HT.out.mono ?_; rintro e2 w2 ⟨r', rfl, hi2, hr2, ho2⟩)
        go_meet
        exact ⟨rfl, rfl, rfl, r', by rw [HRd.out]; exact hi2, .inr hr2, (ho2.block _ hlp (by simp; omega)).trans hpA, hO.trans (ho2.mono (by simp))⟩
      · have qz : ((it.inn : Int) == 0) = false := beq_eq_false_iff_ne.mpr (by omega)
        have qz2 : ¬ (it.inn : Int) = 0 := by omega
        have HRd : Hid (rd = it) := by show _ = _; rw [HR.out, if_neg hz]
        clear HR hz
        go_wp2_with fail
        go_meet
        exact ⟨rfl, rfl, rfl, r, by rw [HRd.out]; exact HhA.out, .inl rfl, hpA, hO⟩
    case rest =>
      obtain ⟨rfl, rfl, rfl, r', hi, hr', hp, hOc⟩ := hcut
      clear HT k3 HhA HR HAl hnb hl0
      have HRr : Hid (r' = r ∨ w.heap.size ≤ r') := by rcases hr' with h | h; exact .inl h; exact .inr (by omega)
      have hpr : r' ≠ w.heap.size := by rcases hr' with h | h <;> omega
      clear hr'
      have kp0 : wc.cell? ⟨w.heap.size, 0, none⟩ = some (.int .i64 0) := blk_cell hp
      have kp1 : wc.cell? ⟨w.heap.size, 1, none⟩ = some (.slice none 0 0) := blk_cell hp
      have fp : ∀ k, wc.frozen? ⟨w.heap.size, k, none⟩ = false := fun k => blk_free hp
      have k6 : wc.cell? ⟨t, 6, none⟩ = some (.bool rd.bad) := blk_cell hi.blk
      have HI := Lib.hid hi
      cases hb : rd.bad with
      | true =>
        rw [hb] at HN1 HN2 k6
        clear hi hb
        go_wp2_with fail
        have hp6 := heap_setCell_same wc _ 0 _ _ (.int .i64 0) hp
        refine bodyPost_ret (results_row_tmp rfl _ _ w.heap.size 40 _ (0, 0) _ (.bool false) rfl rfl (heap_setCell_same _ _ 1 _ _ _ hp6) Try.underlying40 rfl (by kernel_rfl)) rfl ?_
        have hOw : Only wc ((wc.setCell ⟨w.heap.size, 0, none⟩ (.int .i64 0)).setCell ⟨w.heap.size, 1, none⟩ (.slice none 0 0)) [w.heap.size] := ((Only.of_grown (Lib.grownBy_setCell wc w.heap.size 0 _)).mono (by simp)).trans ((Only.of_grown (Lib.grownBy_setCell _ w.heap.size 1 _)).mono (by simp))
        rw [HN1.out, HN2.out]
        exact ⟨r', HI.out.only hOw (by simp; omega) (by simp; omega) (by simpa using hpr) (by intro k hk; simp at hk; subst hk; exact ⟨_, _, _, hp, by simp⟩), HRr.out, hOc.fresh hOw (by intro i hi hlt; simp at hi; omega), fun _ => rfl, fun q hq => by cases hq⟩
      | false =>
        have HO := Lib.hid (one_any t g r' rd wc hi hro hb hri)
        have hrc := hi.lt.2.2
        rw [hb] at HN1 HN2 k6
        clear hi hb
        cases hf : rd.fails with
        | true =>
          rw [hf] at HN2 HO
          clear hf
          go_wp2_with (go_at_call 37; refine HO.out.mono ?_; rintro e2 w2 ⟨hi2, ho2, he, _⟩
                       obtain rfl := he (by first | rfl | trivial)
                       have hp2 := (ho2.block w.heap.size (blk_lt hp) (by simp; omega)).trans hp
                       have kp02 : w2.cell? ⟨w.heap.size, 0, none⟩ = some (.int .i64 0) := blk_cell hp2
                       have kp12 : w2.cell? ⟨w.heap.size, 1, none⟩ = some (.slice none 0 0) := blk_cell hp2
                       have fp2 : ∀ k, w2.frozen? ⟨w.heap.size, k, none⟩ = false := fun k => blk_free hp2)
          have hp6 := heap_setCell_same w2 _ 0 _ _ (.int .i64 0) hp2
          refine bodyPost_ret (results_row_tmp rfl _ _ w.heap.size 40 _ (0, 0) _ (.bool false) rfl rfl (heap_setCell_same _ _ 1 _ _ _ hp6) Try.underlying40 rfl (by kernel_rfl)) rfl ?_
          have hOw : Only w2 ((w2.setCell ⟨w.heap.size, 0, none⟩ (.int .i64 0)).setCell ⟨w.heap.size, 1, none⟩ (.slice none 0 0)) [w.heap.size] := ((Only.of_grown (Lib.grownBy_setCell w2 w.heap.size 0 _)).mono (by simp)).trans ((Only.of_grown (Lib.grownBy_setCell _ w.heap.size 1 _)).mono (by simp))
          rw [HN1.out, HN2.out]
          have hOx := (hOc.fresh ho2 (by intro i hi hlt; simp at hi; have := HRr.out; simp; omega)).fresh hOw (by intro i hi hlt; simp at hi; omega)
          exact ⟨r', hi2.only hOw (by simp; omega) (by simp; omega) (by simpa using hpr) (by intro k hk; simp at hk; subst hk; exact ⟨_, _, _, hp2, by simp⟩), HRr.out, hOx, fun _ => rfl, fun q hq => by cases hq⟩
        | false =>
          rw [hf] at HN2 HO
          clear hf
          go_wp2_with (go_at_call 37; refine HO.out.mono ?_; rintro e2 w2 ⟨hi2, ho2, _, he⟩
                       obtain ⟨pp, rfl, hpi, hpp, hpf⟩ := he (by first | rfl | trivial)
                       have hp2 := (ho2.block w.heap.size (blk_lt hp) (by simp; omega)).trans hp
                       have kp02 : w2.cell? ⟨w.heap.size, 0, none⟩ = some (.int .i64 0) := blk_cell hp2
                       have kp12 : w2.cell? ⟨w.heap.size, 1, none⟩ = some (.slice none 0 0) := blk_cell hp2
                       have fp2 : ∀ k, w2.frozen? ⟨w.heap.size, k, none⟩ = false := fun k => blk_free hp2)
          have hp6 := heap_setCell_same w2 _ 0 _ _ (.int .i64 pp.d) hp2
          refine bodyPost_ret (results_row_tmp rfl _ _ w.heap.size 40 _ (0, 0) _ (.bool true) rfl rfl (heap_setCell_same _ _ 1 _ _ _ hp6) Try.underlying40 rfl (by kernel_rfl)) rfl ?_
          have hOw : Only w2 ((w2.setCell ⟨w.heap.size, 0, none⟩ (.int .i64 pp.d)).setCell ⟨w.heap.size, 1, none⟩ (.slice pp.S pp.spots.length pp.c)) [w.heap.size] := ((Only.of_grown (Lib.grownBy_setCell w2 w.heap.size 0 _)).mono (by simp)).trans ((Only.of_grown (Lib.grownBy_setCell _ w.heap.size 1 _)).mono (by simp))
          rw [HN1.out, HN2.out]
          have hOx := (hOc.fresh ho2 (by intro i hi hlt; simp at hi; have := HRr.out; simp; omega)).fresh hOw (by intro i hi hlt; simp at hi; omega)
          have hsz := hOc.size
          have hwc := blk_lt hp
          have hoff : ∀ i ∈ [w.heap.size], i < wc.heap.size := by intro i hi; simp at hi; omega
          exact ⟨r', hi2.only hOw (by simp; omega) (by simp; omega) (by simpa using hpr) (by intro k hk; simp at hk; subst hk; exact ⟨_, _, _, hp2, by simp⟩), HRr.out, hOx, (fun h => by cases h), (fun q hq => by cases hq; exact ⟨pp, rfl, hpi.only hOw hpf hoff, hpp, wc.heap.size, hrc, hsz, hpf.later hOw.size (Nat.le_refl _)⟩)⟩
end Go.Proofs.Ytbeejmedekgjjaa
