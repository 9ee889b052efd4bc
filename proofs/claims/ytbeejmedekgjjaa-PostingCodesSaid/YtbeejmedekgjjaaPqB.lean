/- Which postings may be, by the document: the walks of rises and Check. -/
import Derived.Test.YtbeejmedekgjjaaPoM
import Derived.Test.YtbeejmedekgjjaaPoD
namespace Go.Proofs.Ytbeejmedekgjjaa
open Go.RowKit
set_option linter.unusedVariables false
set_option linter.unusedSimpArgs false
theorem lastIn_ge {low high : Int} : ∀ (l : List Int) (last : Int), low ≤ last + 1 → upFrom last high l = true → low ≤ lastIn last l + 1 ∧ (l ≠ [] → low ≤ lastIn last l)
  | [], last, h, _ => ⟨h, fun h => absurd rfl h⟩
  | z :: l, last, h, hu => by
    rw [upFrom, Bool.and_eq_true, Bool.and_eq_true, decide_eq_true_eq, decide_eq_true_eq] at hu
    have e : lastIn last (z :: l) = lastIn z l := by
      cases l with
      | nil => rfl
      | cons y l => simp [lastIn, List.getLast?_cons]
    rw [e]
    have := lastIn_ge (low := low) (high := high) l z (by omega) hu.2
    refine ⟨this.1, fun _ => ?_⟩
    cases l with
    | nil => show low ≤ z; omega
    | cons y l => exact this.2 (by simp)
def risesB (low high : Int) (l : List Int) : Bool := upFrom (low - 1) high l && !l.isEmpty
set_option maxHeartbeats 1600000 in
theorem rises_any (A : Option Addr) (c : Nat) (low high : Int) (l : List Int) (w : World) (hr : Lies w A (l.map (Value.int .i64))) (hm : l.length ≤ 9223372036854775807) :
    Calls Try.prog 32 #[.slice A l.length c, .int .i64 low, .int .i64 high] w fun e w' => e = .returned (.bool (risesB low high l)) ∧ Below w.heap.size w w' := by
  have HR := Lib.hid hr
  clear hr
  go_enter Try.func32, Try.ntmps32
  go_wp2_with fail
  go_loopg [11] l.length (fun r i wr => ∃ j : Nat, j + r = l.length ∧ i = .int .i64 j ∧ upFrom (low - 1) high (l.take j) = true ∧ w = wr)
  case atStart => exact ⟨0, by omega, rfl, rfl, rfl⟩
  case round =>
    obtain ⟨j, hj, rfl, hu, rfl⟩ := hrel
    by_cases hjl : j < l.length
    · obtain ⟨a, rfl, hc⟩ := (HR.out).at (k := j) (by simpa using hjl)
      rw [List.getElem_map] at hc
      have hs := upFrom_snoc high (l.take j) l[j] (low - 1)
      rw [← take_snoc hjl, hu, Bool.true_and] at hs
      have hstop := fun h => upFrom_stop (high := high) (last := low - 1) hjl h
      have hge := lastIn_ge (low := low) (l.take j) (low - 1) (by omega) hu
      have hj1 : decide ((j : Int) < (l.length : Int)) = true := decide_eq_true (by omega)
      have hpos : j ≠ 0 → ∃ k, j = k + 1 ∧ w.cell? (a.add k) = some (.int .i64 (lastIn (low - 1) (l.take j))) ∧ low ≤ lastIn (low - 1) (l.take j) := by
        intro h0
        obtain ⟨k, hk1⟩ : ∃ k, j = k + 1 := ⟨j - 1, by omega⟩
        have hk : k < l.length := by omega
        obtain ⟨a', ha', hc'⟩ := (HR.out).at (k := k) (by simpa using hk)
        rw [List.getElem_map] at hc'
        cases ha'
        refine ⟨k, hk1, ?_, hge.2 (fun e => by have h := congrArg List.length e; rw [List.length_take, List.length_nil] at h; omega)⟩
        rw [hc', hk1, take_snoc hk, lastIn_snoc]
      have hge := hge.1
      generalize l[j] = x at hc hs
      have hz : j = 0 → lastIn (low - 1) (l.take j) = low - 1 := by intro e; rw [e]; rfl
      generalize lastIn (low - 1) (l.take j) = y at hs hge hpos hz
      have HS := Lib.hid hs
      have HP := Lib.hid hstop
      clear hs hstop hu
      by_cases h0 : j = 0
      · have hz := hz h0
        subst h0
        rw [Addr.add_zero'] at hc
        clear hpos
        by_cases g1 : y < x
        · by_cases g2 : x ≤ high
          · have HU : Hid (upFrom (low - 1) high (l.take (0 + 1)) = true) := by show _ = _; rw [HS.out]; simp [g1, g2]
            have q1 : decide (x < low) = false := decide_eq_false (by omega)
            have q2 : decide (x > high) = false := decide_eq_false (by omega)
            have q2' : decide (high < x) = false := decide_eq_false (by omega)
            clear HS HP hge g1 g2 hz
            go_wp2_with fail
            go_roundg (l.length - 1)
            case measure => omega
            case rel => exact ⟨1, by omega, by go_num, HU.out, rfl⟩
          · have HF : Hid (risesB low high l = false) := by show _ = _; unfold risesB; rw [HP.out (by rw [HS.out]; simp [g2])]; rfl
            have q1 : decide (x < low) = false := decide_eq_false (by omega)
            have q2 : decide (x > high) = true := decide_eq_true (by omega)
            have q2' : decide (high < x) = true := decide_eq_true (by omega)
            clear HS HP hge g1 g2 hz
            go_wp2_with fail
            go_returns
            exact ⟨by rw [HF.out]; rfl, Below.refl _ _⟩
        · have HF : Hid (risesB low high l = false) := by show _ = _; unfold risesB; rw [HP.out (by rw [HS.out]; simp [g1])]; rfl
          have q1 : decide (x < low) = true := decide_eq_true (by omega)
          clear HS HP hge g1 hz
          go_wp2_with fail
          go_returns
          exact ⟨by rw [HF.out]; rfl, Below.refl _ _⟩
      · obtain ⟨k, hk1, hck, hly⟩ := hpos h0
        clear hpos hz
        have q3 : decide ((j : Int) > 0) = true := decide_eq_true (by omega)
        have q3' : 0 < j := by omega
        have q5 : decide ((0 : Int) ≤ (k : Int)) = true := decide_eq_true (by omega)
        have hw : IntKind.i64.wrap ((j : Int) - 1) = (k : Int) := by go_arith
        have hi1 : (k : Int) < (l.length : Int) := by omega
        have HK := Lib.hid hk1
        clear hk1 h0
        by_cases g0 : x < low
        · have HF : Hid (risesB low high l = false) := by show _ = _; unfold risesB; rw [HP.out (by rw [HS.out, decide_eq_false (by omega)]; rfl)]; rfl
          have q1 : decide (x < low) = true := decide_eq_true (by omega)
          clear HS HP hge g0 hly
          go_wp2_with fail
          go_returns
          exact ⟨by rw [HF.out]; rfl, Below.refl _ _⟩
        · have q1 : decide (x < low) = false := decide_eq_false (by omega)
          by_cases g2 : x ≤ high
          · have q2 : decide (x > high) = false := decide_eq_false (by omega)
            have q2' : decide (high < x) = false := decide_eq_false (by omega)
            by_cases g1 : y < x
            · have HU : Hid (upFrom (low - 1) high (l.take (j + 1)) = true) := by show _ = _; rw [HS.out]; simp [g1, g2]
              have q4 : decide (x ≤ y) = false := decide_eq_false (by omega)
              clear HS HP hge g0 g1 g2 hly
              go_wp2_with fail
              go_roundg (l.length - (j + 1))
              case measure => omega
              case rel => exact ⟨j + 1, by omega, by go_num, HU.out, rfl⟩
            · have HF : Hid (risesB low high l = false) := by show _ = _; unfold risesB; rw [HP.out (by rw [HS.out]; simp [g1])]; rfl
              have q4 : decide (x ≤ y) = true := decide_eq_true (by omega)
              clear HS HP hge g0 g1 g2 hly
              go_wp2_with fail
              go_returns
              exact ⟨by rw [HF.out]; rfl, Below.refl _ _⟩
          · have HF : Hid (risesB low high l = false) := by show _ = _; unfold risesB; rw [HP.out (by rw [HS.out]; simp [g2])]; rfl
            have q2 : decide (x > high) = true := decide_eq_true (by omega)
            have q2' : decide (high < x) = true := decide_eq_true (by omega)
            clear HS HP hge g0 g2 hly
            go_wp2_with fail
            go_returns
            exact ⟨by rw [HF.out]; rfl, Below.refl _ _⟩
    · obtain rfl : j = l.length := by omega
      have HS2 : Hid (risesB low high l = decide (0 < l.length)) := by
        show _ = _
        unfold risesB
        rw [List.take_length] at hu
        rw [hu]
        cases l <;> simp
      clear hu
      go_wp2_with fail
      go_returns
      exact ⟨by rw [HS2.out]; simp, Below.refl _ _⟩
theorem chkFrom_last' : ∀ (c : List Post) (last : Int), chkFrom last c = true → last ≤ lastD last c
  | [], last, _ => by rw [lastD_nil]; omega
  | p :: c, last, h => by
    unfold chkFrom at h
    simp only [Bool.and_eq_true, decide_eq_true_eq] at h
    have := chkFrom_last' c p.doc h.2
    rw [lastD_cons]
    omega
theorem info_int1 : (Try.prog.info? 3).map (fun i => (i.zero, i.size, i.bytes)) = some (some (.int .i64 0), 1, 8) := by kernel_rfl
theorem risesB_places (l : List Int) : risesB 0 59 l = placesB l := rfl
theorem risesB_fields (l : List Int) : risesB 1 4 l = (upFrom 0 4 l && !l.isEmpty) := rfl
set_option maxRecDepth 100000 in
set_option maxHeartbeats 3200000 in
theorem rcheck_any (A : Option Addr) (c : Nat) (ls : List LPost) (w : World) (h : Posts w A c ls) (hn : ∀ p ∈ ls, p.spots.length ≤ 17592186044415) :
    Calls Try.prog 14 #[.slice A ls.length c] w fun e w' => e = .returned (.int .i64 (chkE (ls.map LPost.p))) ∧ Below w.heap.size w w' := by
  have HLi := Lib.hid h.li
  have HIs := Lib.hid h.i
  have hm := h.m
  clear h
  go_enter Try.func14, Try.ntmps14
  go_wp2_with fail
  go_loopg [3, 11] ls.length (fun r s3 i wr => ∃ j : Nat, j + r = ls.length ∧ i = .int .i64 j ∧ s3 = .int .i64 (lastD (-1) ((ls.take j).map LPost.p)) ∧ chkB ((ls.take j).map LPost.p) = true ∧ Below w.heap.size w wr)
  case atStart => exact ⟨0, by omega, rfl, rfl, rfl, Below.refl _ _⟩
  case round =>
    obtain ⟨j, hj, rfl, rfl, hu, hb⟩ := hrel
    by_cases hjl : j < ls.length
    · obtain ⟨a, rfl, hc⟩ := flat_get pk_length (by decide) (HLi.out.below hb) j hjl
      have hk := (HIs.out _ (List.getElem_mem hjl)).below hb
      have hspn := hn _ (List.getElem_mem hjl)
      have hT : (ls.take (j + 1)).map LPost.p = (ls.take j).map LPost.p ++ [LPost.p ls[j]] := by rw [take_snoc hjl, List.map_append]; rfl
      have HP : Hid (chkB ((ls.take (j + 1)).map LPost.p) = false → chkB (ls.map LPost.p) = false) := fun h => chkFrom_cut (n := j + 1) (by rw [← List.map_take]; exact h)
      generalize ls[j] = p at hc hk hT hspn
      have hs := chkFrom_snoc ((ls.take j).map LPost.p) (LPost.p p) (-1)
      have hl := lastD_snoc (-1) ((ls.take j).map LPost.p) (LPost.p p)
      rw [← hT] at hs hl
      have hu2 : chkFrom (-1) ((ls.take j).map LPost.p) = true := hu
      rw [hu2, Bool.true_and] at hs
      have hlo := (chkFrom_last' _ _ hu2)
      obtain ⟨y, hy⟩ : ∃ y, lastD (-1) ((ls.take j).map LPost.p) = y := ⟨_, rfl⟩
      rw [hy] at hs hlo ⊢
      obtain ⟨d, S, cS, sp⟩ := p
      have HS : Hid (chkB ((ls.take (j + 1)).map LPost.p) = (fitsB (LPost.p ⟨d, S, cS, sp⟩) && decide (y < d))) := hs
      have HL : Hid (lastD (-1) ((ls.take (j + 1)).map LPost.p) = d) := hl
      unfold pk at hc
      simp only at hc
      have HC := Lib.hid hc
      clear hc hs hl hT hu hu2 hy
      have hj1 : decide ((j : Int) < (ls.length : Int)) = true := decide_eq_true (by omega)
      have hkl := hk.li
      have hks := hk.s
      have hkm : sp.length ≤ 9223372036854775807 := hk.m
      have hb5 : Below wr.heap.size wr (wr.alloc (.cells #[.int .i64 d, .slice S sp.length cS] 40)) := (Below.refl _ _).alloc (Nat.le_refl _) _
      have z0 : (wr.alloc (.cells #[.int .i64 d, .slice S sp.length cS] 40)).cell? ⟨wr.heap.size, 0, none⟩ = some (.int .i64 d) := by go_cell
      have z1 : (wr.alloc (.cells #[.int .i64 d, .slice S sp.length cS] 40)).cell? ⟨wr.heap.size, 1, none⟩ = some (.slice S sp.length cS) := by go_cell
      have HKl := Lib.hid (hkl.below hb5)
      have HKs := Lib.hid (fun s hs => (hks s hs).below hb5)
      have HB5 := Lib.hid (hb.trans (hb5.mono hb.size))
      have hN5 : wr.heap.size < (wr.alloc (.cells #[.int .i64 d, .slice S sp.length cS] 40)).heap.size := by simp
      clear hkl hks hk
      go_upto_region 6 with (refine wpList_load_any rfl 40 (.tmp 13) rfl _ rfl _ _ HC.out rfl rfl info_posting ?_)
      generalize wr.alloc (.cells #[.int .i64 d, .slice S sp.length cS] 40) = W5 at z0 z1 HKl HKs HB5 hN5 ⊢
      generalize wr.heap.size = N5 at z0 z1 hN5 ⊢
      clear HC hb hb5
      go_wp2_with fail
      go_loopg [6, 18] sp.length (fun r2 s6 i2 wr => ∃ k : Nat, k + r2 = sp.length ∧ i2 = .int .i64 k ∧ OI wr W5.heap.size s6 ((sp.take k).map LSpot.f) ∧ (∀ s ∈ sp.take k, placesB s.l = true) ∧ Below W5.heap.size W5 wr)
      case atStart => exact ⟨0, by omega, rfl, World.ownsRow_nil _ _ _ _, by simp, Below.refl _ _⟩
      case round =>
        obtain ⟨k, hk, rfl, hown, hpl, hb6⟩ := hrel
        by_cases hkl : k < sp.length
        · obtain ⟨a2, rfl, hc2⟩ := flat_get sk_length (by decide) (HKl.out.below hb6) k hkl
          have hks := (HKs.out _ (List.getElem_mem hkl)).below hb6
          have hTk : (sp.take (k + 1)) = sp.take k ++ [sp[k]] := take_snoc hkl
          have hmem : sp[k] ∈ sp := List.getElem_mem hkl
          have hbd : (sp.take k).length = k := by rw [List.length_take]; omega
          generalize sp[k] = q at hc2 hks hTk hmem
          obtain ⟨f, Aq, cq, lq⟩ := q
          unfold sk at hc2
          simp only at hc2
          have HC2 := Lib.hid hc2
          have hql := hks.li
          have hqm := hks.m
          have HPl : Hid (fitsB (LPost.p ⟨d, some a2, cS, sp⟩) = true → placesB lq = true) := fun h => by
            have := (fitsB_fits h).pl (LSpot.p ⟨f, Aq, cq, lq⟩) (List.mem_map_of_mem hmem)
            exact this
          have hj2 : decide ((k : Int) < (sp.length : Int)) = true := decide_eq_true (by omega)
          have HTk := Lib.hid hTk
          have hb7 : Below wr.heap.size wr (wr.alloc (.cells #[.int .i64 f, .slice Aq lq.length cq] 46)) := (Below.refl _ _).alloc (Nat.le_refl _) _
          have hown7 := OI.below hown hb7
          have x0 : (wr.alloc (.cells #[.int .i64 f, .slice Aq lq.length cq] 46)).cell? ⟨wr.heap.size, 0, none⟩ = some (.int .i64 f) := by go_cell
          have x1 : (wr.alloc (.cells #[.int .i64 f, .slice Aq lq.length cq] 46)).cell? ⟨wr.heap.size, 1, none⟩ = some (.slice Aq lq.length cq) := by go_cell
          have hN7 : wr.heap.size < (wr.alloc (.cells #[.int .i64 f, .slice Aq lq.length cq] 46)).heap.size := by simp
          have hql7 := hql.below hb7
          have hb67 := hb6.trans (hb7.mono hb6.size)
          have hN6 : W5.heap.size ≤ wr.heap.size := hb6.size
          have hO6 := fun (k' : Nat) hk' => (World.ownsRow.lt hown k' hk').2
          have HQ := Lib.hid (fun w' (hb' : Below W5.heap.size W5 w') => ((HKs.out _ hmem).below hb').li)
          clear hc2 hks hTk hmem hql hown
          go_upto_region 9 with (refine wpList_load_any rfl 46 (.tmp 20) rfl _ rfl _ _ HC2.out rfl rfl info_spot ?_)
          generalize wr.alloc (.cells #[.int .i64 f, .slice Aq lq.length cq] 46) = W7 at x0 x1 hown7 hN7 hql7 hb67 ⊢
          clear hb6 hb7
          generalize wr.heap.size = N7 at x0 x1 hN7 hN6 hO6 ⊢
          clear HC2
          obtain ⟨A6, c6, rfl, hc6, _⟩ := OI.form hown7
          have hl6 : ((sp.take k).map LSpot.f).length = k := by rw [List.length_map]; exact hbd
          have hown8 : W7.ownsRow W5.heap.size 3 1 (.slice A6 k c6) k (((sp.take k).map LSpot.f).map (Value.int .i64)) := by
            have := hown7
            unfold OI at this
            rw [hl6] at this
            exact this
          rw [hl6]
          clear hown7
          have hownB := World.ownsRow.alloc hown8 (.cells #[.int .i64 f] 3)
          have qB0 : (W7.alloc (.cells #[.int .i64 f] 3)).cell? ⟨W7.heap.size, 0, none⟩ = some (.int .i64 f) := tmp_here _ _ _
          have hbB : Below W7.heap.size W7 (W7.alloc (.cells #[.int .i64 f] 3)) := (Below.refl _ _).alloc (Nat.le_refl _) _
          have hql8 := hql7.below hbB
          have hb68 := hb67.trans (hbB.mono hb67.size)
          have x1B : (W7.alloc (.cells #[.int .i64 f] 3)).cell? ⟨N7, 1, none⟩ = some (.slice Aq lq.length cq) := by rw [← x1]; exact hbB.cell (p := ⟨N7, 1, none⟩) hN7
          have hbX : W5.heap.size ≤ (W7.alloc (.cells #[.int .i64 f] 3)).heap.size := hb68.size
          have HLL : Hid (maxLen = 9223372036854775807) := rfl
          have hO6 : ∀ k', (Value.slice A6 k c6).ownBlock = some k' → k' < N7 := fun k' hk' => hO6 k' (by rw [hl6]; exact hk')
          have hO5 : ∀ k', (Value.slice A6 k c6).ownBlock = some k' → W5.heap.size ≤ k' := fun k' hk' => (World.ownsRow.lt hown8 k' hk').1
          have hkm2 : k + 1 ≤ 9223372036854775807 := by omega
          have HSm := Lib.hid hspn
          clear hown8 hql7 hql8 x1
          have hk8 : (k + 1) * 8 ≤ 140737488355328 := by omega
          have HB68 := Lib.hid hb68
          clear hb68 hb67 hbB hbd
          go_upto_region 10 with (at_builtin; go_loud (refine wpList_one rfl _ _ 35 rfl W5.heap.size 3 _ 8 Try.underlying35 info_int1 rfl (Value.slice A6 k c6) k (((sp.take k).map LSpot.f).map (Value.int .i64)) rfl hownB ⟨W7.heap.size, 0, none⟩ (.int .i64 f) rfl qB0 rfl (by rw [HLL.out]; exact hkm2) hk8 hbX ?_; intro g8 cap8 w8 hown9 hg8 hat8 hlt8))
          have hb8 : Below W5.heap.size W5 w8 := HB68.out.grown hg8 HB68.out.size (fun k' hk' => hO5 k' hk')
          have x18 : w8.cell? ⟨N7, 1, none⟩ = some (.slice Aq lq.length cq) := hg8.cell x1B (fun e => by have := hO6 _ e.symm; simp at this)
          have HR8 := Lib.hid (rises_any Aq cq 0 59 lq w8 (HQ.out _ hb8) hqm)
          rw [risesB_places] at HR8
          have hOI : OI w8 W5.heap.size (.slice (some ⟨g8, 0, none⟩) (k + 1) cap8) ((sp.take (k + 1)).map LSpot.f) := by
            refine OI.mk hown9 ?_ ?_
            · rw [List.length_map, List.length_take]; omega
            · rw [HTk.out]; simp
          have HOI := Lib.hid hOI
          have HB8 := Lib.hid hb8
          clear hOI hb8 hown9 hg8 hat8 hownB qB0 x1B hO5 hO6 hbX
          cases hpq : placesB lq with
          | false =>
            rw [hpq] at HR8
            have HF : Hid (chkE (ls.map LPost.p) = 1) := chkE_no (HP.out (by
              rw [HS.out]
              cases hf : fitsB (LPost.p ⟨d, some a2, cS, sp⟩) with
              | false => rfl
              | true => rw [HPl.out hf] at hpq; cases hpq))
            clear hpq
            go_wp2_with (go_at_call 32; refine HR8.out.mono ?_; rintro e9 w9 ⟨rfl, hb9⟩)
            go_returns
            exact ⟨by rw [HF.out]; rfl, HB5.out.trans ((HB8.out.mono HB5.out.size).trans (hb9.mono (Nat.le_trans HB5.out.size HB8.out.size)))⟩
          | true =>
            rw [hpq] at HR8
            have HPq := Lib.hid hpq
            clear hpq
            go_wp2_with (go_at_call 32; refine HR8.out.mono ?_; rintro e9 w9 ⟨rfl, hb9⟩)
            go_roundg (sp.length - (k + 1))
            case measure => omega
            case rel => exact ⟨k + 1, by omega, by go_num, OI.below HOI.out hb9, by
              rw [HTk.out]
              intro s hs
              rcases List.mem_append.1 hs with hs | hs
              · exact hpl s hs
              · cases List.mem_singleton.1 hs; exact HPq.out, HB8.out.trans (hb9.mono HB8.out.size)⟩
        · obtain rfl : k = sp.length := by omega
          rw [List.take_length] at hown hpl
          have z06 : wr.cell? ⟨N5, 0, none⟩ = some (.int .i64 d) := by rw [← z0]; exact hb6.cell (p := ⟨N5, 0, none⟩) hN5
          have z16 : wr.cell? ⟨N5, 1, none⟩ = some (.slice S sp.length cS) := by rw [← z1]; exact hb6.cell (p := ⟨N5, 1, none⟩) hN5
          obtain ⟨A6, c6, rfl, hc6, _⟩ := OI.form hown
          have HR6 := Lib.hid (rises_any A6 c6 1 4 (sp.map LSpot.f) wr (Lies.of_own hown) (by rw [List.length_map]; exact hkm))
          rw [risesB_fields, List.length_map] at HR6
          rw [List.length_map]
          have hfit : fitsB (LPost.p ⟨d, S, cS, sp⟩) = ((upFrom 0 4 (sp.map LSpot.f) && !(sp.map LSpot.f).isEmpty) && decide (0 ≤ d) && decide (d < 65536)) := by
            show (spotsB (sp.map LSpot.p) && decide (0 ≤ d) && decide (d < 65536)) = _
            congr 2
            unfold spotsB
            have e1 : (sp.map LSpot.p).all (fun s => placesB s.2) = true := by
              rw [List.all_eq_true]
              intro s hs
              obtain ⟨q, hq, rfl⟩ := List.mem_map.1 hs
              exact hpl q hq
            have e2 : (sp.map LSpot.p).map (·.1) = sp.map LSpot.f := by rw [List.map_map]; rfl
            have e3 : (sp.map LSpot.p).isEmpty = (sp.map LSpot.f).isEmpty := by cases sp <;> rfl
            rw [e1, e2, e3, Bool.true_and]
          rw [hfit] at HS
          generalize (upFrom 0 4 (sp.map LSpot.f) && !(sp.map LSpot.f).isEmpty) = ok at HS HR6
          have HB6 := Lib.hid hb6
          clear hfit hown hpl z0 z1 hb6
          by_cases g1 : y < d
          · have q1 : decide (d ≤ y) = false := decide_eq_false (by omega)
            by_cases g2 : d ≤ 65535
            · have q2 : decide (d > 65535) = false := decide_eq_false (by omega)
              have q2' : decide ((65535 : Int) < d) = false := decide_eq_false (by omega)
              cases ok with
              | false =>
                have HF : Hid (chkE (ls.map LPost.p) = 1) := chkE_no (HP.out (by rw [HS.out]; rfl))
                clear HS HP g1 g2
                go_wp2_with (go_at_call 32; refine HR6.out.mono ?_; rintro e9 w9 ⟨rfl, hb9⟩)
                go_returns
                exact ⟨by rw [HF.out]; rfl, HB5.out.trans ((HB6.out.mono HB5.out.size).trans (hb9.mono (Nat.le_trans HB5.out.size HB6.out.size)))⟩
              | true =>
                have HG : Hid (chkB ((ls.take (j + 1)).map LPost.p) = true) := by show _ = _; rw [HS.out]; simp; omega
                clear HS HP g1 g2
                go_wp2_with (go_at_call 32; refine HR6.out.mono ?_; rintro e9 w9 ⟨rfl, hb9⟩
                             have z09 : w9.cell? ⟨N5, 0, none⟩ = some (.int .i64 d) := by rw [← z06]; exact hb9.cell (p := ⟨N5, 0, none⟩) (Nat.lt_of_lt_of_le hN5 HB6.out.size))
                go_roundg (ls.length - (j + 1))
                case measure => omega
                case rel => exact ⟨j + 1, by omega, by go_num, by rw [HL.out], HG.out, HB5.out.trans ((HB6.out.mono HB5.out.size).trans (hb9.mono (Nat.le_trans HB5.out.size HB6.out.size)))⟩
            · have q2 : decide (d > 65535) = true := decide_eq_true (by omega)
              have q2' : decide ((65535 : Int) < d) = true := decide_eq_true (by omega)
              have HF : Hid (chkE (ls.map LPost.p) = 1) := chkE_no (HP.out (by rw [HS.out, decide_eq_false (show ¬ d < 65536 by omega), Bool.and_false]; rfl))
              clear HS HP g1 g2 HR6
              go_wp2_with fail
              go_returns
              exact ⟨by rw [HF.out]; rfl, HB5.out.trans (HB6.out.mono HB5.out.size)⟩
          · have q1 : decide (d ≤ y) = true := decide_eq_true (by omega)
            have HF : Hid (chkE (ls.map LPost.p) = 1) := chkE_no (HP.out (by rw [HS.out, decide_eq_false g1, Bool.and_false]))
            clear HS HP g1 HR6
            go_wp2_with fail
            go_returns
            exact ⟨by rw [HF.out]; rfl, HB5.out.trans (HB6.out.mono HB5.out.size)⟩
    · obtain rfl : j = ls.length := by omega
      rw [List.take_length] at hu
      have HU : Hid (chkE (ls.map LPost.p) = 0) := chkE_ok hu
      clear hu
      go_wp2_with fail
      go_returns
      exact ⟨by rw [HU.out]; rfl, hb⟩
end Go.Proofs.Ytbeejmedekgjjaa
