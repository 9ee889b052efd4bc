/- A posting read by the document: the walk of one. -/
import Derived.Test.YtbeejmedekgjjaaPqA
import Derived.Test.YtbeejmedekgjjaaPoP
namespace Go.Proofs.Ytbeejmedekgjjaa
open Go.RowKit
set_option linter.unusedVariables false
set_option linter.unusedSimpArgs false
theorem RfS.only {w w' : World} {g : Nat} {S : List Nat} {o : Option (List UInt8)} (h : RfS w g o) (hk : ∀ k ∈ S, NoBytes w k) (hne : g ∉ S) (hg : Only w w' S) : RfS w' g o := by
  cases o with
  | none => obtain ⟨e, h⟩ := h; exact ⟨e, h.same (hg.block g h.lt hne)⟩
  | some bs =>
    obtain ⟨A, c, h⟩ := h
    refine ⟨A, c, by rw [hg.block g h.lt hne]; exact h.cells, fun j v hj => ?_, h.cap0, h.cap, h.block⟩
    obtain ⟨a, ha, hc⟩ := h.bytes j v hj
    refine ⟨a, ha, ?_⟩
    have hb := World.block_lt_of_cell? _ _ hc
    by_cases hm : (a.add j).block ∈ S
    · rw [List.getElem?_map] at hj
      obtain ⟨b, _, rfl⟩ := Option.map_eq_some_iff.1 hj
      exact absurd hc ((hk _ hm).cell rfl _)
    · rw [World.cell?_of_block (hg.block _ hb hm)]
      exact hc
theorem RfS.apartOpt' {w w' : World} {g : Nat} {row : Option Nat} {o : Option (List UInt8)} (h : RfS w g o) (hk : ∀ k, row = some k → NoBytes w k ∧ g ≠ k) (hg : w.grownBy w' row) : RfS w' g o :=
  h.only (S := row.toList) (fun k hm => (hk k (by simpa using hm)).1) (fun hm => (hk g (by simpa using hm)).2 rfl) ⟨hg.os, hg.tape, hg.output, hg.size, fun i hi hn => hg.block i hi (fun e => hn (by rw [← e]; simp))⟩
/-- Spots as the document reads them, whatever comes. -/
def refSpots : Nat → Option (List UInt8) → List Spt × Option (List UInt8)
  | 0, o => ([], o)
  | n + 1, o => ((((numS 4 o).1 : Int), (risingS 60 59 (numS 4 o).2).1) :: (refSpots n (risingS 60 59 (numS 4 o).2).2).1, (refSpots n (risingS 60 59 (numS 4 o).2).2).2)
def refPost (last : Int) (o : Option (List UInt8)) : Post × Option (List UInt8) :=
  (⟨last + 1 + (numS 65536 o).1, (refSpots (numS 4 (numS 65536 o).2).1 (numS 4 (numS 65536 o).2).2).1⟩, (refSpots (numS 4 (numS 65536 o).2).1 (numS 4 (numS 65536 o).2).2).2)
theorem refSpots_succ (n : Nat) (o : Option (List UInt8)) : refSpots (n + 1) o = ((((numS 4 o).1 : Int), (risingS 60 59 (numS 4 o).2).1) :: (refSpots n (risingS 60 59 (numS 4 o).2).2).1, (refSpots n (risingS 60 59 (numS 4 o).2).2).2) := rfl
set_option maxRecDepth 100000 in
set_option maxHeartbeats 3200000 in
theorem rone_any (g : Nat) (o : Option (List UInt8)) (last : Int) (w : World) (h : RfS w g o) (hl : OLen o) (h0 : -1 ≤ last) (h1 : last ≤ 1099511627776) :
    Calls Try.prog 29 #[.pointer (some ⟨g, 0, none⟩), .int .i64 last] w fun e w' => ∃ p : LPost, e = .returned (.agg #[.int .i64 p.d, .slice p.S p.spots.length p.c]) ∧ p.In w' ∧ p.From w.heap.size w' ∧ p.p = (refPost last o).1 ∧ RfS w' g (refPost last o).2 ∧ w.grownBy w' (some g) := by
  have hlt := h.lt
  have hbA := (Below.refl w.heap.size w).alloc (Nat.le_refl _) (.cells #[.int .i64 0, .slice none 0 0] 40)
  have hA := h.below hbA
  have hRA := heap_alloc_new w (.cells #[.int .i64 0, .slice none 0 0] 40)
  have hx := numS_le 65536 o
  have hl1 := numS_len (most := 65536) hl
  have HPS := Lib.hid (show refPost last o = (⟨last + 1 + (numS 65536 o).1, (refSpots (numS 4 (numS 65536 o).2).1 (numS 4 (numS 65536 o).2).2).1⟩, (refSpots (numS 4 (numS 65536 o).2).1 (numS 4 (numS 65536 o).2).2).2) from rfl)
  have HN := Lib.hid (fun w' h' => fsnum g 65536 o w' h' hl)
  generalize numS 65536 o = N at hx hl1 HPS HN
  obtain ⟨x, o1⟩ := N
  simp only at hx hl1 HPS HN
  have hx2 := numS_le 4 o1
  have hl2 := numS_len (most := 4) hl1
  have HN2 := Lib.hid (fun w' h' => fsnum g 4 o1 w' h' hl1)
  generalize numS 4 o1 = N2 at hx2 hl2 HPS HN2
  obtain ⟨n0, o2⟩ := N2
  simp only at hx2 hl2 HPS HN2
  obtain ⟨TT, hTT⟩ : ∃ TT, refSpots n0 o2 = TT := ⟨_, rfl⟩
  rw [hTT] at HPS
  have HT := Lib.hid hTT
  have h04 : n0 ≤ 4 := by omega
  obtain ⟨Z, hZ⟩ : ∃ Z, last + 1 + (x : Int) = Z := ⟨_, rfl⟩
  rw [hZ] at HPS
  have hw1 : IntKind.i64.wrap (last + 1) = last + 1 := by go_arith
  have hw2 : IntKind.i64.wrap (last + 1 + (x : Int)) = last + 1 + (x : Int) := by go_arith
  have hZb : -1 ≤ Z ∧ Z ≤ 1099511693313 := by omega
  have HZ := Lib.hid hZ
  have HNA := Lib.hid (HN.out _ hA)
  have HZ2 : Hid (IntKind.i64.wrap (last + 1 + (x : Int)) = Z) := by show _ = _; rw [hw2, hZ]
  clear hTT h hl hZ hA hw2
  go_enter Try.func29, Try.ntmps29
  go_wp2_with fail
  have HwA := Lib.hid (show (w.alloc (.cells #[.int .i64 0, .slice none 0 0] 40)).heap.size = w.heap.size + 1 by simp)
  generalize w.alloc (.cells #[.int .i64 0, .slice none 0 0] 40) = wA at *
  refine HNA.out.mono ?_
  rintro e1 w1 ⟨rfl, hr1, hg1⟩
  have hw2 := HZ2.out
  clear HNA HN
  go_wp2_with fail
  have hs1 := hg1.size
  have hwA : wA.heap.size = w.heap.size + 1 := by have := HwA.out; exact this
  have hrB := hr1.below ((Below.refl w1.heap.size w1).alloc (Nat.le_refl _) (.cells #[.int .i64 Z, .slice none 0 0] 40))
  have hbY := heap_alloc_new w1 (.cells #[.int .i64 Z, .slice none 0 0] 40)
  have hRA1 := (hg1.block w.heap.size (blk_lt hRA) (by intro e; injection e with e; omega)).trans hRA
  have hRB := blk_alloc (o := .cells #[.int .i64 Z, .slice none 0 0] 40) hRA1
  have hoB : Only w (w1.alloc (.cells #[.int .i64 Z, .slice none 0 0] 40)) [g] := ((Only.of_below hbA [g]).trans (Only.of_grown hg1)).trans (Only.of_below ((Below.refl w1.heap.size w1).alloc (Nat.le_refl _) _) _)
  have hsB : (w1.alloc (.cells #[.int .i64 Z, .slice none 0 0] 40)).heap.size = w1.heap.size + 1 := by simp
  clear hr1 hg1 hw2 hRA1
  generalize w1.alloc (.cells #[.int .i64 Z, .slice none 0 0] 40) = wB at *
  obtain ⟨Y, hY⟩ : ∃ Y, w1.heap.size = Y := ⟨_, rfl⟩
  rw [hY] at hbY hsB hs1 ⊢
  refine (HN2.out _ hrB).mono ?_
  rintro e2 w2 ⟨rfl, hr2, hg2⟩
  have hs2 := hg2.size
  have hbY2 := (hg2.block Y (blk_lt hbY) (by intro e; injection e with e; omega)).trans hbY
  have hR2 := (hg2.block w.heap.size (blk_lt hRB) (by intro e; injection e with e; omega)).trans hRB
  have ho2 := hoB.trans (Only.of_grown hg2)
  have HRs := Lib.hid (fun (V : World) (hb : Only w2 V [g, Y]) => (hb.block w.heap.size (blk_lt hR2) (by simp; omega)).trans hR2)
  have HOs := Lib.hid (fun (V : World) (hb : Only w2 V [g, Y]) => (ho2.fresh hb (by intro i hi hlt; simp at hi; simp; omega) : Only w V [g]))
  have hsz2 : w2.heap.size ≥ Y + 1 := by omega
  clear HN2 hrB hg2 hoB hRB hbY hY hbA hRA hR2 ho2
  go_wp2_with fail
  go_loopg [17] n0 (fun rr i wr => ∃ (j : Nat) (ls : List LSpot) (A : Option Addr) (c : Nat) (q : Option (List UInt8)), i = .int .i64 j ∧ j + rr = n0 ∧ ls.length = j ∧ wr.heap[Y]? = some (.cells #[.int .i64 Z, .slice A ls.length c] 40 (0, 0)) ∧ wr.ownsRow w2.heap.size 46 2 (.slice A ls.length c) ls.length (ls.flatMap sk) ∧ (∀ s ∈ ls, s.In wr ∧ s.From w2.heap.size wr (Value.slice A ls.length c).ownBlock) ∧ RfS wr g q ∧ (∀ k, (Value.slice A ls.length c).ownBlock = some k → NoBytes wr k) ∧ OLen q ∧ ls.map LSpot.p ++ (refSpots rr q).1 = TT.1 ∧ (refSpots rr q).2 = TT.2 ∧ Only w2 wr [g, Y])
  case atStart => exact ⟨0, [], none, 0, o2, rfl, by simp, rfl, hbY2, World.ownsRow_nil _ _ _ _, by simp, hr2, by intro k hk; simp [Value.ownBlock] at hk, hl2, by rw [HT.out]; rfl, by rw [HT.out], Only.refl _ _⟩
  case round =>
    obtain ⟨j, ls, Au, cu, q, rfl, hj, hlj, hbYr, hown, hsp, hrq, hnb, hlq, hT1, hT2, hO⟩ := hrel
    have HLj := Lib.hid hlj
    clear hlj
    by_cases hjl : j < n0
    · obtain ⟨m, hm⟩ : ∃ m, gk = m + 1 := ⟨gk - 1, by omega⟩
      subst hm
      rw [refSpots_succ] at hT1 hT2
      have HN3 := Lib.hid (fsnum g 4 q wr hrq hlq)
      have hx3 := numS_le 4 q
      have hol3 := numS_len (most := 4) hlq
      generalize numS 4 q = N3 at HN3 hx3 hol3 hT1 hT2
      obtain ⟨f2, q3⟩ := N3
      simp only at HN3 hx3 hol3 hT1 hT2
      have hin := risingS_in q3
      have hol4 := risingS_len (many := 60) (top := 59) hol3
      have HRi := Lib.hid (fun w' hr' => fsrising g 60 59 q3 w' (by omega) (by omega) (by omega) hr' hol3)
      generalize risingS 60 59 q3 = R2 at HRi hin hol4 hT1 hT2
      obtain ⟨l2, q4⟩ := R2
      simp only at HRi hin hol4 hT1 hT2
      have HT1 := Lib.hid hT1
      have HT2 := Lib.hid hT2
      have hj1 : decide ((j : Int) < (n0 : Int)) = true := decide_eq_true (by omega)
      clear hT1 hT2 hrq hlq
      go_wp2_with fail
      refine HN3.out.mono ?_
      rintro e3 w3 ⟨rfl, hr3, hg3⟩
      have hrC : RfS (w3.alloc (.cells #[.int .i64 f2, .slice none 0 0] 46)) g q3 := hr3.below ((Below.refl w3.heap.size w3).alloc (Nat.le_refl _) _)
      have HRiA := Lib.hid (HRi.out _ hrC)
      clear HN3
      go_wp2_with fail
      refine HRiA.out.mono ?_
      rintro e4 w4 ⟨v4, rfl, hv4, hr4, hg4⟩
      obtain ⟨A3, c3, rfl, hc3, _⟩ := OI.form hv4
      have hs3 := hg3.size
      have hYr := blk_lt hbYr
      have hgr := hrC.lt
      have hX : w4.heap[w3.heap.size]? = some (.cells #[.int .i64 f2, .slice none 0 0] 46 (0, 0)) := by rw [hg4.block w3.heap.size (by simp) (by intro e; injection e with e; omega)]; exact heap_alloc_new _ _
      have qX0 : w4.cell? ⟨w3.heap.size, 0, none⟩ = some (.int .i64 f2) := blk_cell hX
      have qX1 : w4.cell? ⟨w3.heap.size, 1, none⟩ = some (.slice none 0 0) := blk_cell hX
      have qXf : w4.frozen? ⟨w3.heap.size, 1, none⟩ = false := blk_free hX
      have hXS : (w4.setCell ⟨w3.heap.size, 1, none⟩ (.slice A3 l2.length c3)).heap[w3.heap.size]? = some (.cells #[.int .i64 f2, .slice A3 l2.length c3] 46 (0, 0)) := by rw [heap_setCell_same w4 _ 1 _ _ _ hX]; rfl
      have qS0 : (w4.setCell ⟨w3.heap.size, 1, none⟩ (.slice A3 l2.length c3)).cell? ⟨w3.heap.size, 0, none⟩ = some (.int .i64 f2) := blk_cell hXS
      have qS1 : (w4.setCell ⟨w3.heap.size, 1, none⟩ (.slice A3 l2.length c3)).cell? ⟨w3.heap.size, 1, none⟩ = some (.slice A3 l2.length c3) := blk_cell hXS
      have hr4X : RfS (w4.setCell ⟨w3.heap.size, 1, none⟩ (.slice A3 l2.length c3)) g q4 := hr4.only (S := [w3.heap.size]) (by intro k hk; simp at hk; subst hk; exact ⟨_, _, _, hX, by simp⟩) (by simp; omega) (Only.of_grown (Lib.grownBy_setCell w4 w3.heap.size 1 _))
      have hlt4 := World.ownsRow.lt hv4
      have hli4 : Lies w4 A3 (l2.map (Value.int .i64)) := Lies.of_own hv4
      have hO1 : Only wr w4 [g, w3.heap.size] := (((Only.of_grown hg3).mono (fun i h => by simp at h; simp [h])).trans (Only.of_below ((Below.refl w3.heap.size w3).alloc (Nat.le_refl _) _) _)).trans ((Only.of_grown hg4).mono (fun i h => by simp at h; simp [h]))
      have hOX : Only w4 (w4.setCell ⟨w3.heap.size, 1, none⟩ (.slice A3 l2.length c3)) [w3.heap.size] := Only.of_grown (Lib.grownBy_setCell w4 w3.heap.size 1 _)
      have hO2 : Only wr (w4.setCell ⟨w3.heap.size, 1, none⟩ (.slice A3 l2.length c3)) [g, w3.heap.size] := hO1.trans (hOX.mono (fun i h => by simp at h; simp [h]))
      have hbYX := (hO2.block Y hYr (by simp; omega)).trans hbYr
      have kY1 : (w4.setCell ⟨w3.heap.size, 1, none⟩ (.slice A3 l2.length c3)).cell? ⟨Y, 1, none⟩ = some (.slice Au ls.length cu) := blk_cell hbYX
      have HSZ := Lib.hid (show (w4.setCell ⟨w3.heap.size, 1, none⟩ (.slice A3 l2.length c3)).heap.size = w4.heap.size by simp)
      have hlw := hO.size
      clear hbYr
      go_upto_region 7 with fail
      generalize (w4.setCell ⟨w3.heap.size, 1, none⟩ (.slice A3 l2.length c3)) = wX at *
      clear hg4 hX qX0 qX1 qXf hr4 hv4 HRiA hrC hr3 hg3 HRi
      have hno : ∀ k, (Value.slice Au ls.length cu).ownBlock = some k → k ∉ [g, w3.heap.size] := by
        intro k hk
        have := World.ownsRow.lt hown k hk
        simp only [List.mem_cons, List.mem_nil_iff, or_false, not_or]
        omega
      have hownX := own_only hown hO2 hno
      have hnbX : ∀ k, (Value.slice Au ls.length cu).ownBlock = some k → NoBytes wX k := fun k hk => (hnb k hk).block (hO2.block k (World.ownsRow.lt hown k hk).2 (hno k hk))
      have hownB := World.ownsRow.alloc hownX (.cells #[.int .i64 f2, .slice A3 l2.length c3] 46)
      have hnbB : ∀ k, (Value.slice Au ls.length cu).ownBlock = some k → NoBytes (wX.alloc (.cells #[.int .i64 f2, .slice A3 l2.length c3] 46)) k := fun k hk => (hnbX k hk).block (heap_alloc_old wX _ (World.ownsRow.lt hownX k hk).2)
      have hB := heap_alloc_new wX (.cells #[.int .i64 f2, .slice A3 l2.length c3] 46)
      have qB0 : (wX.alloc (.cells #[.int .i64 f2, .slice A3 l2.length c3] 46)).cell? ⟨wX.heap.size, 0, none⟩ = some (.int .i64 f2) := blk_cell hB
      have qB1 : (wX.alloc (.cells #[.int .i64 f2, .slice A3 l2.length c3] 46)).cell? ⟨wX.heap.size, 1, none⟩ = some (.slice A3 l2.length c3) := blk_cell hB
      have hbX : w2.heap.size ≤ (wX.alloc (.cells #[.int .i64 f2, .slice A3 l2.length c3] 46)).heap.size := by have := hO2.size; simp; omega
      have hrB := hr4X.below ((Below.refl wX.heap.size wX).alloc (Nat.le_refl _) (.cells #[.int .i64 f2, .slice A3 l2.length c3] 46))
      have hbYB := (heap_alloc_old wX (.cells #[.int .i64 f2, .slice A3 l2.length c3] 46) (blk_lt hbYX)).trans hbYX
      have HLL : Hid (maxLen = 9223372036854775807) := rfl
      have hl4 : ls.length + 1 ≤ 4 := by have := HLj.out; omega
      have HNo := Lib.hid (fun k (hk : (Value.slice Au ls.length cu).ownBlock = some k) => (World.ownsRow.lt hown k hk))
      have HOwn := Lib.hid hown
      clear hown hnbX hownX
      go_wp2_with (at_builtin; go_loud (refine wpList_two rfl _ _ 38 rfl w2.heap.size 46 _ 32 Try.underlying38 info_spots rfl (Value.slice Au ls.length cu) ls.length (ls.flatMap sk) rfl hownB hnbB ⟨wX.heap.size, 0, none⟩ (.int .i64 f2) (.slice A3 l2.length c3) rfl qB0 qB1 rfl rfl (clean_pair _ _ _ _) (clean_pair 0 none 0 0) (clean_sk ls) (by rw [HLL.out]; omega) (by omega) hbX ?_; intro g5 cap5 w5 hown5 hg5 hat5 hlt5 hnb5)
                   have hbY5 := (hg5.block Y (blk_lt hbYB) (fun e => by have := HNo.out Y e.symm; omega)).trans hbYB
                   have kY5 : w5.cell? ⟨Y, 1, none⟩ = some (.slice Au ls.length cu) := blk_cell hbY5
                   have kY5f : w5.frozen? ⟨Y, 1, none⟩ = false := blk_free hbY5)
      clear hownB hB qB0 qB1
      have hBs : (wX.alloc (.cells #[.int .i64 f2, .slice A3 l2.length c3] 46)).heap.size = w4.heap.size + 1 := by rw [← HSZ.out]; simp
      have hAs : (w3.alloc (.cells #[.int .i64 f2, .slice none 0 0] 46)).heap.size = w3.heap.size + 1 := by simp
      have hs5 := hg5.size
      have hs4 := hO1.size
      rw [hBs] at hs5 hat5
      rw [hAs] at hlt4
      have hal := (Below.refl wX.heap.size wX).alloc (Nat.le_refl _) (.cells #[.int .i64 f2, .slice A3 l2.length c3] 46)
      have hOp : Only (wX.alloc (.cells #[.int .i64 f2, .slice A3 l2.length c3] 46)) w5 (Value.slice Au ls.length cu).ownBlock.toList := ⟨hg5.os, hg5.tape, hg5.output, hg5.size, fun i hi hn => hg5.block i hi (fun e => hn (by rw [← e]; simp))⟩
      have hgS := Lib.grownBy_setCell w5 Y 1 (.slice (some ⟨g5, 0, none⟩) (ls.length + 1) cap5)
      have hSs : (w5.setCell ⟨Y, 1, none⟩ (.slice (some ⟨g5, 0, none⟩) (ls.length + 1) cap5)).heap.size = w5.heap.size := by simp
      have hgY : g5 ≠ Y := by
        intro e
        rcases hat5 with h | h
        · have := HNo.out _ h; omega
        · omega
      have e1 : (ls ++ [(⟨f2, A3, c3, l2⟩ : LSpot)]).length = ls.length + 1 := by simp
      have e2 : (ls ++ [(⟨f2, A3, c3, l2⟩ : LSpot)]).flatMap sk = ls.flatMap sk ++ [.int .i64 f2, .slice A3 l2.length c3] := by simp [List.flatMap_append, sk]
      have hVk : ∀ k, (Value.slice Au ls.length cu).ownBlock = some k → k < wr.heap.size := fun k hk => (HNo.out k hk).2
      have hA3 : ∀ a, A3 = some a → w3.heap.size + 1 ≤ a.block ∧ a.block < w4.heap.size := fun a ha => hlt4 a.block (by rw [ha]; rfl)
      go_roundg m
      case measure => omega
      case rel =>
        refine ⟨j + 1, ls ++ [⟨f2, A3, c3, l2⟩], some ⟨g5, 0, none⟩, cap5, q4, by go_num, by omega, by rw [e1]; have := HLj.out; omega, ?_, ?_, ?_, ?_, ?_, hol4, ?_, HT2.out, ?_⟩
        · rw [e1, heap_setCell_same _ Y 1 _ _ _ hbY5]; rfl
        · rw [e1, e2]
          exact own_grown hown5 hgS (fun e => hgY (by injection e))
        · rw [e1]
          intro s hs
          rcases List.mem_append.1 hs with hs | hs
          · obtain ⟨hi, hf⟩ := hsp s hs
            have hoff : ∀ a, s.A = some a → a.block ∉ [g, w3.heap.size] := by
              intro a ha
              have := hf a ha
              simp only [List.mem_cons, List.mem_nil_iff, or_false, not_or]
              omega
            refine ⟨(((hi.only hO2 hoff).below hal).grown hg5 (fun a ha => (hf a ha).2.2)).grown hgS (fun a ha e => by have := hf a ha; injection e with e; omega), ?_⟩
            exact ((hf.same (w' := wX.alloc (.cells #[.int .i64 f2, .slice A3 l2.length c3] 46)) (by rw [hBs]; omega)).next (g := g5) hg5.size (by rw [hBs]; rcases hat5 with h | h; exact .inl h; exact .inr (by omega)) rfl).same (by rw [hSs]; exact Nat.le_refl _)
          · cases List.mem_singleton.1 hs
            refine ⟨⟨(((lies_only hli4 hOX (fun a ha => by have := hA3 a ha; simp; omega)).below hal).grown hg5 (fun a ha e => by have := hA3 a ha; have := hVk _ e.symm; omega)).grown hgS (fun a ha e => by have := hA3 a ha; injection e with e; omega), hc3, by have := hin.1; show l2.length ≤ _; omega, hin.2, by unfold I64; show _ ≤ (f2 : Int) ∧ (f2 : Int) ≤ _; omega⟩, ?_⟩
            intro a ha
            have h3 := hA3 a ha
            refine ⟨by omega, by rw [hSs]; omega, ?_⟩
            intro e
            injection e with e
            have e : g5 = a.block := e
            rcases hat5 with h | h
            · have := hVk _ h; omega
            · omega
        · exact (hrB.apartOpt' (fun k hk => ⟨hnbB k hk, by have := HNo.out k hk; omega⟩) hg5).only (S := [Y]) (by intro k hk; simp at hk; subst hk; exact ⟨_, _, _, hbY5, by simp⟩) (by simp; omega) (Only.of_grown hgS)
        · intro k hk
          rw [e1] at hk
          cases hk
          exact hnb5.block (hgS.block _ hlt5 (fun e => hgY (by injection e with e)))
        · have := HT1.out
          rw [List.map_append, List.append_assoc]
          exact this
        · have o1 : Only w2 wX [g, Y] := hO.fresh hO2 (by intro i hi hlt; simp at hi; simp; omega)
          have o2 : Only w2 (wX.alloc (.cells #[.int .i64 f2, .slice A3 l2.length c3] 46)) [g, Y] := o1.trans (Only.of_below hal _)
          have o3 : Only w2 w5 [g, Y] := o2.fresh hOp (by intro i hi hlt; have := HNo.out i (by simpa using hi); omega)
          exact o3.trans ((Only.of_grown hgS).mono (by simp))
    · obtain rfl : gk = 0 := by omega
      obtain rfl : j = n0 := by omega
      have hT1 : ls.map LSpot.p = TT.1 := by rw [← hT1]; simp [refSpots]
      have hT2 : q = TT.2 := hT2
      have k0 : wr.cell? ⟨Y, 0, none⟩ = some (.int .i64 Z) := blk_cell hbYr
      have k1 : wr.cell? ⟨Y, 1, none⟩ = some (.slice Au ls.length cu) := blk_cell hbYr
      have hR := HRs.out _ hO
      have kp0 : wr.cell? ⟨w.heap.size, 0, none⟩ = some (.int .i64 0) := blk_cell hR
      have kp1 : wr.cell? ⟨w.heap.size, 1, none⟩ = some (.slice none 0 0) := blk_cell hR
      have fp : ∀ k, wr.frozen? ⟨w.heap.size, k, none⟩ = false := fun k => blk_free hR
      have HOw := Lib.hid hown
      have HSp := Lib.hid hsp
      have HRq := Lib.hid hrq
      have hoS := hO.size
      clear hown hsp hrq hnb
      have hj1 : decide ((j : Int) < (j : Int)) = false := decide_eq_false (by omega)
      go_wp2_with fail
      have hp6 := heap_setCell_same wr _ 0 _ _ (.int .i64 Z) hR
      refine bodyPost_ret (results_cell_row rfl _ _ w.heap.size 40 _ (0, 0) _ rfl (heap_setCell_same _ _ 1 _ _ _ hp6) Try.underlying40 rfl (by kernel_rfl)) rfl ?_
      have hOw : Only wr ((wr.setCell ⟨w.heap.size, 0, none⟩ (.int .i64 Z)).setCell ⟨w.heap.size, 1, none⟩ (.slice Au ls.length cu)) [w.heap.size] := ((Only.of_grown (Lib.grownBy_setCell wr w.heap.size 0 _)).mono (by simp)).trans ((Only.of_grown (Lib.grownBy_setCell _ w.heap.size 1 _)).mono (by simp))
      have hlu := World.ownsRow.lt HOw.out
      obtain ⟨A9, c9, e9, hS9⟩ := SpotsIn.of HOw.out (by have := HLj.out; omega) HSp.out
      injection e9 with e9 _ e9c
      subst e9; subst e9c
      have hsp9 := hS9.only hOw (by intro i hi; simp at hi; omega)
      refine ⟨⟨Z, Au, cu, ls⟩, rfl, ⟨hsp9.li, hsp9.c, by have := hsp9.m; show ls.length ≤ _; omega, hsp9.s, by show I64 Z; unfold I64; omega⟩, ⟨fun a ha => ⟨by have := (hsp9.a a ha).1; omega, (hsp9.a a ha).2⟩, fun s hs a ha => ⟨by have := (hsp9.sa s hs a ha).1; omega, (hsp9.sa s hs a ha).2⟩⟩, by rw [HPS.out]; show (⟨Z, ls.map LSpot.p⟩ : Post) = _; rw [hT1], ?_, ?_⟩
      · rw [HPS.out]
        show RfS _ g TT.2
        rw [← hT2]
        exact HRq.out.only (by intro k hk; simp at hk; subst hk; exact ⟨_, _, _, hR, by simp⟩) (by simp; omega) hOw
      · exact ((HOs.out _ hO).fresh hOw (by intro i hi hlt; simp at hi; omega)).grown
end Go.Proofs.Ytbeejmedekgjjaa
