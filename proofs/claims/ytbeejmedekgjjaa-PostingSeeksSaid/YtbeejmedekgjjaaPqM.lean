/- One that goes through postings' bytes, asked for a document: plain, and the walk of Seek. -/
import Derived.Test.YtbeejmedekgjjaaPpC
import Derived.Test.YtbeejmedekgjjaaPoL
import Derived.Deep.CutRange
namespace Go.Proofs.Ytbeejmedekgjjaa
open Go.RowKit
set_option linter.unusedVariables false
set_option linter.unusedSimpArgs false
theorem chkFrom_le : ∀ (c : List Post) (last : Int), chkFrom last c = true → ∀ p ∈ c, p.doc ≤ lastD last c
  | [], _, _, p, hp => by cases hp
  | q :: c, last, h, p, hp => by
    unfold chkFrom at h
    simp only [Bool.and_eq_true, decide_eq_true_eq] at h
    rw [lastD_cons]
    rcases List.mem_cons.1 hp with rfl | hp
    · exact (chkFrom_last c _ h.2).1
    · exact chkFrom_le c _ h.2 p hp
theorem Sim.skip {t : It} {l : List Post} (h : Sim t l) : Sim t.skip (l.drop t.inn) ∧ ∀ p ∈ l.take t.inn, p.doc ≤ t.top := by
  obtain ⟨h1, h2⟩ := chkFrom_take h.chk t.inn
  have h3 := (chkFrom_last _ _ h1).1
  have h4 := chkFrom_le _ _ h1
  rw [← h.top] at h2 h3 h4
  refine ⟨⟨h.bad, ?_, Nat.zero_le _, rfl, rfl, h.runs, h2, ?_⟩, h4⟩
  · show t.left - t.inn = (l.drop t.inn).length
    rw [h.left, List.length_drop]
  · have := h.a0
    show -1 ≤ t.top
    omega
theorem dropWhile_take {q : Post → Bool} : ∀ (n : Nat) (l : List Post), (∀ p ∈ l.take n, q p = true) → l.dropWhile q = (l.drop n).dropWhile q
  | 0, l, _ => rfl
  | n + 1, [], _ => rfl
  | n + 1, p :: l, h => by
    have h1 : q p = true := h p (by simp)
    rw [List.dropWhile_cons, if_pos h1, List.drop_succ_cons]
    exact dropWhile_take n l (fun x hx => h x (by rw [List.take_succ_cons]; exact List.mem_cons_of_mem _ hx))
/-- Those ahead of a document fall. -/
def below (doc : Int) (p : Post) : Bool := decide (p.doc < doc)
set_option maxRecDepth 100000 in
set_option maxHeartbeats 6400000 in
theorem seek_any (t g r : Nat) (it : It) (l : List Post) (doc : Int) (w : World) (h : ItAt w t g r it) (ho : it.Ok) (hS : Sim it l) :
    Calls Try.prog 18 #[.pointer (some ⟨t, 0, none⟩), .int .i64 doc] w fun e w' => ∃ r' it' l', ItAt w' t g r' it' ∧ it'.Ok ∧ Sim it' l' ∧ (r' = r ∨ w.heap.size ≤ r') ∧ Only w w' [t, g, r] ∧
      ((l.dropWhile (below doc) = [] ∧ l' = [] ∧ e = .returned (.tuple #[.agg #[.int .i64 0, .slice none 0 0], .bool false])) ∨
       (∃ p : LPost, l.dropWhile (below doc) = p.p :: l' ∧ e = .returned (.tuple #[.agg #[.int .i64 p.d, .slice p.S p.spots.length p.c], .bool true]) ∧ p.In w' ∧ ∃ b, r' < b ∧ w.heap.size ≤ b ∧ p.From b w')) := by
  have hbA := (Below.refl w.heap.size w).alloc (Nat.le_refl _) (.cells #[.int .i64 0, .slice none 0 0] 40)
  have hA := h.below hbA
  have hpA := heap_alloc_new w (.cells #[.int .i64 0, .slice none 0 0] 40)
  have hlt := h.lt
  have hO := Only.of_below hbA [t, g, r]
  clear h
  go_enter Try.func18, Try.ntmps18
  go_wp2_with fail
  generalize w.alloc (.cells #[.int .i64 0, .slice none 0 0] 40) = wA at *
  have hlp := blk_lt hpA
  clear hbA
  go_loopg [] (l.length + 1) (fun rr wr => ∃ (r1 : Nat) (i1 : It) (l1 : List Post), ItAt wr t g r1 i1 ∧ i1.Ok ∧ Sim i1 l1 ∧ l.dropWhile (below doc) = l1.dropWhile (below doc) ∧ l1.length < rr ∧ (r1 = r ∨ w.heap.size ≤ r1) ∧ r1 ≠ w.heap.size ∧ wr.heap[w.heap.size]? = some (.cells #[.int .i64 0, .slice none 0 0] 40 (0, 0)) ∧ Only w wr [t, g, r])
  case atStart => exact ⟨r, it, l, hA, ho, hS, rfl, Nat.lt_succ_self _, .inl rfl, by omega, hpA, hO⟩
  case round =>
    clear hA ho hS hpA hO hlp
    obtain ⟨r1, i1, l1, hi, hio, hsim, hdw, hln, hr1, hr1p, hp, hOr⟩ := hrel
    have HAl := Lib.hid (alive_any t g r1 i1 wr hi)
    have HD := Lib.hid hdw
    have kp0 : ∀ V : World, V.heap[w.heap.size]? = some (.cells #[.int .i64 0, .slice none 0 0] 40 (0, 0)) → V.cell? ⟨w.heap.size, 0, none⟩ = some (.int .i64 0) := fun V h => blk_cell h
    have kp1 : ∀ V : World, V.heap[w.heap.size]? = some (.cells #[.int .i64 0, .slice none 0 0] 40 (0, 0)) → V.cell? ⟨w.heap.size, 1, none⟩ = some (.slice none 0 0) := fun V h => blk_cell h
    have kpf : ∀ V : World, V.heap[w.heap.size]? = some (.cells #[.int .i64 0, .slice none 0 0] 40 (0, 0)) → ∀ k, V.frozen? ⟨w.heap.size, k, none⟩ = false := fun V h k => blk_free h
    have KP := Lib.hid (⟨kp0, kp1, kpf⟩ : (∀ V : World, V.heap[w.heap.size]? = some (.cells #[.int .i64 0, .slice none 0 0] 40 (0, 0)) → V.cell? ⟨w.heap.size, 0, none⟩ = some (.int .i64 0)) ∧ (∀ V : World, V.heap[w.heap.size]? = some (.cells #[.int .i64 0, .slice none 0 0] 40 (0, 0)) → V.cell? ⟨w.heap.size, 1, none⟩ = some (.slice none 0 0)) ∧ (∀ V : World, V.heap[w.heap.size]? = some (.cells #[.int .i64 0, .slice none 0 0] 40 (0, 0)) → ∀ k, V.frozen? ⟨w.heap.size, k, none⟩ = false))
    clear kp0 kp1 kpf hdw
    cases l1 with
    | nil =>
      have hal : i1.alive = false := by
        have hl : i1.left = 0 := hsim.left
        unfold It.alive
        rw [decide_eq_false (by omega), Bool.and_false]
      rw [hal] at HAl
      have HI := Lib.hid hi
      have HO := Lib.hid hio
      have HSi := Lib.hid hsim
      have q0 := KP.out.1 wr hp
      have q1 := KP.out.2.1 wr hp
      have qf := KP.out.2.2 wr hp
      clear hal hi hio hsim
      go_wp2_with (go_at_call 35; refine HAl.out.mono ?_; rintro e1 w1 ⟨rfl, rfl⟩)
      have hp6 := heap_setCell_same wr _ 0 _ _ (.int .i64 0) hp
      refine bodyPost_ret (results_row_tmp rfl _ _ w.heap.size 40 _ (0, 0) _ (.bool false) rfl rfl (heap_setCell_same _ _ 1 _ _ _ hp6) Try.underlying40 rfl (by kernel_rfl)) rfl ?_
      have hOw : Only wr ((wr.setCell ⟨w.heap.size, 0, none⟩ (.int .i64 0)).setCell ⟨w.heap.size, 1, none⟩ (.slice none 0 0)) [w.heap.size] := ((Only.of_grown (Lib.grownBy_setCell wr w.heap.size 0 _)).mono (by simp)).trans ((Only.of_grown (Lib.grownBy_setCell _ w.heap.size 1 _)).mono (by simp))
      exact ⟨r1, i1, [], HI.out.only hOw (by simp; omega) (by simp; omega) (by simpa using hr1p) (by intro k hk; simp at hk; subst hk; exact ⟨_, _, _, hp, by simp⟩), HO.out, HSi.out, hr1, hOr.fresh hOw (by intro i hi hlt; simp at hi; omega), .inl ⟨HD.out, rfl, rfl⟩⟩
    | cons q l2 =>
      have hal := hsim.alive
      obtain ⟨hnb, hl0⟩ := It.alive_not hal
      rw [hal] at HAl
      obtain ⟨hsr, hri⟩ := hsim.ready
      have hro := (hio.ready hal).1
      have HT := Lib.hid (turn_any t g r1 i1 wr hi hio hnb)
      have k3 : wr.cell? ⟨t, 3, none⟩ = some (.int .i64 i1.inn) := blk_cell hi.blk
      have HI := Lib.hid hi
      have HR : Hid (i1.ready = if i1.inn = 0 then i1.turn else i1) := rfl
      obtain ⟨rd, hrd⟩ : ∃ rd, i1.ready = rd := ⟨_, rfl⟩
      rw [hrd] at hsr hri hro HR
      have hwr := hOr.size
      clear hal hrd hi hsim hio hnb hl0
      go_upto_if 14 with (go_at_call 35; refine HAl.out.mono ?_; rintro e1 w1 ⟨rfl, rfl⟩)
      go_cut [0, 1] from 8 to 46 (fun s0 s1 wc => s0 = .pointer (some ⟨t, 0, none⟩) ∧ s1 = .int .i64 doc ∧ ∃ r2, ItAt wc t g r2 rd ∧ (r2 = r ∨ w.heap.size ≤ r2) ∧ r2 ≠ w.heap.size ∧ wc.heap[w.heap.size]? = some (.cells #[.int .i64 0, .slice none 0 0] 40 (0, 0)) ∧ Only w wc [t, g, r])
      case first =>
        by_cases hz : i1.inn = 0
        · have qz : ((i1.inn : Int) == 0) = true := beq_iff_eq.mpr (by omega)
          have qz2 : (i1.inn : Int) = 0 := by omega
          have HRd : Hid (rd = i1.turn) := by show _ = _; rw [HR.out, if_pos hz]
          clear HR hz
          go_wp2_with (go_at_call 36; refine HT.out.mono ?_; rintro e2 w2 ⟨r2, rfl, hi2, hr2, ho2⟩)
          go_meet
          have := blk_lt hp
          exact ⟨rfl, rfl, r2, by rw [HRd.out]; exact hi2, .inr (by omega), by omega, (ho2.block _ (blk_lt hp) (by simp; omega)).trans hp, hOr.trans (ho2.mono (by simp))⟩
        · have qz : ((i1.inn : Int) == 0) = false := beq_eq_false_iff_ne.mpr (by omega)
          have qz2 : ¬ (i1.inn : Int) = 0 := by omega
          have HRd : Hid (rd = i1) := by show _ = _; rw [HR.out, if_neg hz]
          clear HR hz
          go_wp2_with fail
          go_meet
          exact ⟨rfl, rfl, r1, by rw [HRd.out]; exact HI.out, hr1, hr1p, hp, hOr⟩
      case rest =>
        clear HT k3 HI HR HAl hp hOr hr1 hr1p hwr
        obtain ⟨rfl, rfl, r2, hi, hr2, hr2p, hp, hOr⟩ := hcut
        have hwc := hOr.size
        have hpl := blk_lt hp
        have k6 : wc.cell? ⟨t, 6, none⟩ = some (.bool rd.bad) := blk_cell hi.blk
        have k5 : wc.cell? ⟨t, 5, none⟩ = some (.int .i64 rd.top) := blk_cell hi.blk
        rw [hsr.bad] at k6
        obtain ⟨hnp, hsn⟩ := hsr.cons
        obtain ⟨hsk, hsk2⟩ := hsr.skip
        by_cases htd : rd.top < doc
        · have q1 : decide (rd.top < doc) = true := decide_eq_true htd
          have HSk := Lib.hid (skip_any t g r2 rd wc hi hro)
          have HDw : Hid (l.dropWhile (below doc) = ((q :: l2).drop rd.inn).dropWhile (below doc)) := by
            show _ = _
            rw [HD.out]
            exact dropWhile_take _ _ (fun p hp => decide_eq_true (by have := hsk2 p hp; omega))
          have HSs := Lib.hid hsk
          have HOk := Lib.hid hro.skip
          have hle : ((q :: l2).drop rd.inn).length < gk - 1 := by rw [List.length_drop, List.length_cons]; rw [List.length_cons] at hln; omega
          clear hi hsr hnp hsn hsk hsk2 hro HD htd
          go_wp2_with (go_at_call 38; refine HSk.out.mono ?_; rintro e2 w2 ⟨r3, rfl, hi2, hr3, ho2⟩)
          go_roundg (gk - 1)
          case measure => omega
          case rel => exact ⟨r3, rd.skip, _, hi2, HOk.out, HSs.out, HDw.out, hle, .inr (by omega), by omega, (ho2.block _ hpl (by simp; omega)).trans hp, hOr.trans (ho2.mono (by simp))⟩
        · have q1 : decide (rd.top < doc) = false := decide_eq_false htd
          have HNx := Lib.hid (next_any t g r2 rd wc hi hro)
          rw [hnp] at HNx
          have HSn := Lib.hid hsn
          have HOk := Lib.hid hro.next
          have hir := hi.lt
          clear hi hsr hnp hsn hsk hsk2 hro htd
          go_upto_region 7 with (go_at_call 17; refine HNx.out.mono ?_; rintro e2 w2 ⟨r3, hi2, hr3, ho2, _, he⟩
                                 obtain ⟨pp, rfl, hpi, hpp, bb, hbb, hbw, hpf⟩ := he q rfl)
          have hd : pp.d = q.doc := by rw [← hpp]; rfl
          have hb3 := (Below.refl w2.heap.size w2).alloc (Nat.le_refl _) (.cells #[.int .i64 pp.d, .slice pp.S pp.spots.length pp.c] 40)
          have hX := heap_alloc_new w2 (.cells #[.int .i64 pp.d, .slice pp.S pp.spots.length pp.c] 40)
          have hi3 := hi2.below hb3
          have hp3 := (heap_alloc_old w2 (.cells #[.int .i64 pp.d, .slice pp.S pp.spots.length pp.c] 40) (Nat.lt_of_lt_of_le hpl ho2.size)).trans ((ho2.block _ hpl (by simp; omega)).trans hp)
          have hpi3 := hpi.below hb3
          have hpf3 := hpf.later hb3.size (Nat.le_refl bb)
          have ho3 := ho2.trans (Only.of_below hb3 _)
          have hr3' : r3 = r ∨ w.heap.size ≤ r3 := by rcases hr3 with h | h; rw [h]; exact hr2; exact .inr (by omega)
          have hr3p : r3 ≠ w.heap.size := by rcases hr3 with h | h; rw [h]; exact hr2p; omega
          have HO3 : Hid (Only w (w2.alloc (.cells #[.int .i64 pp.d, .slice pp.S pp.spots.length pp.c] 40)) [t, g, r]) := hOr.fresh ho3 (by intro i hi hlt; simp at hi; simp; omega)
          clear hi2 ho2 hb3 hpi hpf HNx
          generalize w2.alloc (.cells #[.int .i64 pp.d, .slice pp.S pp.spots.length pp.c] 40) = w3 at *
          obtain ⟨N2, hN2⟩ : ∃ N2, w2.heap.size = N2 := ⟨_, rfl⟩
          rw [hN2] at hX ⊢
          have x0 : w3.cell? ⟨N2, 0, none⟩ = some (.int .i64 pp.d) := blk_cell hX
          have x1 : w3.cell? ⟨N2, 1, none⟩ = some (.slice pp.S pp.spots.length pp.c) := blk_cell hX
          have hdwq : (q :: l2).dropWhile (below doc) = if q.doc < doc then l2.dropWhile (below doc) else q :: l2 := by
            rw [List.dropWhile_cons]
            unfold below
            by_cases h : q.doc < doc <;> simp [h]
          rw [hdwq, ← hd] at HD
          by_cases hdd : pp.d < doc
          · rw [if_pos hdd] at HD
            have q2 : decide (pp.d ≥ doc) = false := decide_eq_false (by omega)
            have q3 : decide (doc ≤ pp.d) = false := decide_eq_false (by omega)
            clear hdd hdwq hd hN2
            go_wp2_with fail
            go_roundg (gk - 1)
            case measure => omega
            case rel => exact ⟨r3, rd.nextIt, l2, hi3, HOk.out, HSn.out, HD.out, by rw [List.length_cons] at hln; omega, hr3', hr3p, hp3, HO3.out⟩
          · rw [if_neg hdd] at HD
            have q2 : decide (pp.d ≥ doc) = true := decide_eq_true (by omega)
            have q3 : decide (doc ≤ pp.d) = true := decide_eq_true (by omega)
            have z0 := KP.out.1 w3 hp3
            have z1 := KP.out.2.1 w3 hp3
            have zf := KP.out.2.2 w3 hp3
            have HIr := Lib.hid hi3.lt
            clear hdd hdwq hd hN2
            go_wp2_with fail
            have hp6 := heap_setCell_same w3 _ 0 _ _ (.int .i64 pp.d) hp3
            refine bodyPost_ret (results_row_tmp rfl _ _ w.heap.size 40 _ (0, 0) _ (.bool true) rfl rfl (heap_setCell_same _ _ 1 _ _ _ hp6) Try.underlying40 rfl (by kernel_rfl)) rfl ?_
            have hOw : Only w3 ((w3.setCell ⟨w.heap.size, 0, none⟩ (.int .i64 pp.d)).setCell ⟨w.heap.size, 1, none⟩ (.slice pp.S pp.spots.length pp.c)) [w.heap.size] := ((Only.of_grown (Lib.grownBy_setCell w3 w.heap.size 0 _)).mono (by simp)).trans ((Only.of_grown (Lib.grownBy_setCell _ w.heap.size 1 _)).mono (by simp))
            exact ⟨r3, rd.nextIt, l2, hi3.only hOw (by simp; omega) (by simp; omega) (by simpa using hr3p) (by intro k hk; simp at hk; subst hk; exact ⟨_, _, _, hp3, by simp⟩), HOk.out, HSn.out, hr3', HO3.out.fresh hOw (by intro i hi hlt; simp at hi; omega), .inr ⟨pp, by rw [hpp]; exact HD.out, rfl, hpi3.only hOw hpf3 (by intro i hi; simp at hi; omega), bb, hbb, by omega, hpf3.later hOw.size (Nat.le_refl bb)⟩⟩
end Go.Proofs.Ytbeejmedekgjjaa
