/- A device's clone: the walk. -/
import Derived.Test.YtjfpanamkkdebaaMxJpL
import Derived.Test.YtjfpanamkkdebaaMaB
import Derived.Deep.RegionLaw
import Derived.Deep.Cut
namespace Go.Proofs.Ytjfpanamkkdebaa
open Go.RowKit Go.Maps
set_option linter.unusedVariables false
set_option maxRecDepth 100000
set_option linter.unusedSimpArgs false
theorem own_some {w : World} {b n : Nat} {e : TypeId} {v : Value} {xs : List Value} (h : w.ownsRow b e 1 v n xs) (hn : 1 ≤ n) : ∃ k c, v = .slice (some ⟨k, 0, none⟩) n c ∧ b ≤ k := by
  rcases h.2 with ⟨_, h0⟩ | ⟨k, c, cur, hv, hb, _⟩
  · omega
  · exact ⟨k, c, hv, hb⟩
theorem vss_one (xs : List (List UInt8)) : ∀ u ∈ xs.map vs, u.oneCell' = true := by
  intro u hu
  obtain ⟨x, _, rfl⟩ := List.mem_map.1 hu
  rfl
set_option maxHeartbeats 800000 in
/-- The library's Clone of a row of texts. -/
theorem sclone_any (a : Addr) (c : Nat) (xs : List (List UInt8)) (w : World) (hm : xs.length ≤ 4096) (h0 : 0 < xs.length) (hr : Lies w (some a) (xs.map vs)) :
    Calls Try.prog 55 #[.slice (some a) xs.length c] w fun e w' => ∃ k k2, e = .returned (.slice (some ⟨k, 0, none⟩) xs.length k2) ∧ w'.ownsRow w.heap.size 9 1 (.slice (some ⟨k, 0, none⟩) xs.length k2) xs.length (xs.map vs) ∧ w.heap.size ≤ k ∧ Below w.heap.size w w' := by
  have kn := fun (l c l' c' : Nat) (w : World) => Lib.run_eql_slice_nil (P := Try.prog) w 76 9 (some a) l c l' c' Try.underlying76
  have HML : Hid (maxLen = 9223372036854775807) := rfl
  go_enter Try.func55, Try.ntmps55
  go_wp2_with (at_builtin; refine wpList_app _ rfl _ _ 76 rfl w.heap.size 9 _ 1 16 Try.underlying76 info_str rfl (by decide) _ 0 _ rfl (World.ownsRow_lit w _ 0 (Nat.le_refl _) (by decide) rfl) (some a) xs.length c (xs.map vs) rfl (by simp) (hr.below ((Below.refl _ _).alloc (Nat.le_refl _) _)) (vss_one xs) (fun e => by cases e) ?c6 ?c7 ?c8 ?_)
  case c6 => rw [HML.out]; omega
  case c7 => omega
  case c8 => simp
  intro v w3 hown3 hg3 _
  go_wp2
  go_ret
  have hb : Below w.heap.size w w3 := ((Below.refl _ _).alloc (Nat.le_refl _) _).grown hg3 (by simp) (by intro k hk; cases hk; exact Nat.le_refl _)
  obtain ⟨k, k2, rfl, hk⟩ := own_some hown3 h0
  exact ⟨k, k2, rfl, hown3, hk, hb⟩
theorem MapIs.congr {w : World} {b N : Nat} {L L2 : Nat → Option (List UInt8)} (h : MapIs w b N L) (e : ∀ i, i < N → L i = L2 i) : MapIs w b N L2 := by
  obtain ⟨D, h1, h2⟩ := h
  exact ⟨D, h1, h2.keys, fun i hi => by rw [h2.has i hi, e i hi], fun i s hi hs => h2.val i s hi (by rw [e i hi]; exact hs)⟩
/-- What the clone's map has, while those of 'left' are still to come. -/
def cloned (L : Nat → Option (List UInt8)) (left : Nat → Bool) (i : Nat) : Option (List UInt8) := if left i then none else L i
/-- A clone being made. -/
structure Cl (w w2 : World) (g k m c : Nat) (d : Dsk) (L : Nat → Option (List UInt8)) : Prop where
  blk : w2.heap[g]? = some (.cells #[.bool d.bound, .int .i64 d.left, .bool d.dead, .slice (some ⟨k, 0, none⟩) d.kept.length c, .map (some m)] 81 (0, 0))
  row : w2.ownsRow 0 9 1 (.slice (some ⟨k, 0, none⟩) d.kept.length c) d.kept.length (d.kept.map vs)
  map : MapIs w2 m d.kept.length L
  gk : g ≠ k
  gm : g ≠ m
  km : k ≠ m
  g0 : w.heap.size ≤ g
  k0 : w.heap.size ≤ k
  m0 : w.heap.size ≤ m
  below : Below w.heap.size w w2
theorem clA {w w2 : World} {B k2 c2 : Nat} {d : Dsk} (hown : w2.ownsRow B 9 1 (.slice (some ⟨k2, 0, none⟩) d.kept.length c2) d.kept.length (d.kept.map vs)) (hk : w.heap.size ≤ k2) (hb : Below w.heap.size w w2) :
    Cl w ((w2.alloc (.map #[] 0)).alloc (.cells #[.bool d.bound, .int .i64 d.left, .bool d.dead, .slice (some ⟨k2, 0, none⟩) d.kept.length c2, .map (some w2.heap.size)] 81)) (w2.heap.size + 1) k2 w2.heap.size c2 d (fun _ => none) := by
  have eW : (w2.alloc (.map #[] 0)).heap.size = w2.heap.size + 1 := by simp
  have hl := (World.ownsRow.lt hown k2 rfl).2
  have hs := hb.size
  refine ⟨?_, own_mono_base (World.ownsRow.alloc (World.ownsRow.alloc hown _) _) (Nat.zero_le _), (mapIs_made w2 _).below ((Below.refl _ _).alloc (Nat.le_refl _) _), by omega, by omega, by omega, by omega, hk, hs, (hb.alloc hs _).alloc (by rw [eW]; omega) _⟩
  have h := heap_alloc_new (w2.alloc (.map #[] 0)) (.cells #[.bool d.bound, .int .i64 d.left, .bool d.dead, .slice (some ⟨k2, 0, none⟩) d.kept.length c2, .map (some w2.heap.size)] 81)
  rw [eW] at h
  exact h
theorem clB {w w2 : World} {B k2 c2 : Nat} {d : Dsk} (hown : w2.ownsRow B 9 1 (.slice (some ⟨k2, 0, none⟩) d.kept.length c2) d.kept.length (d.kept.map vs)) (hk : w.heap.size + 1 ≤ k2) (hb : Below w.heap.size w w2) (hm : MapIs w2 w.heap.size d.kept.length (fun _ => none)) :
    Cl w (w2.alloc (.cells #[.bool d.bound, .int .i64 d.left, .bool d.dead, .slice (some ⟨k2, 0, none⟩) d.kept.length c2, .map (some w.heap.size)] 81)) w2.heap.size k2 w.heap.size c2 d (fun _ => none) := by
  have hl := (World.ownsRow.lt hown k2 rfl).2
  have hs := hb.size
  have hml := hm.lt
  exact ⟨heap_alloc_new w2 _, own_mono_base (World.ownsRow.alloc hown _) (Nat.zero_le _), hm.below ((Below.refl _ _).alloc (Nat.le_refl _) _), by omega, by omega, by omega, hs, by omega, Nat.le_refl _, hb.alloc hs _⟩
theorem Cl.only {w wc w2 : World} {g k m c : Nat} {d : Dsk} {L : Nat → Option (List UInt8)} {r : Nat} (h : Cl w wc g k m c d L) (ho : wc.grownBy w2 (some r)) (hr : w.heap.size ≤ r) (hg : g ≠ r) (hk : k ≠ r) (hm : m ≠ r) : Cl w w2 g k m c d L := by
  have hl := (World.ownsRow.lt h.row k rfl).2
  refine ⟨(ho.block g (blk_lt h.blk) (by simpa using hg)).trans h.blk, own_block h.row (ho.block k hl (by simpa using hk)), h.map.kept ho (by simpa using hm), h.gk, h.gm, h.km, h.g0, h.k0, h.m0, ?_⟩
  exact h.below.grown ho h.below.size (fun k hk => by injection hk with hk; omega)
theorem Cl.put {w wc w2 : World} {g k m c : Nat} {d : Dsk} {L L2 : Nat → Option (List UInt8)} (h : Cl w wc g k m c d L) (ho : wc.grownBy w2 (some m)) (hm : MapIs w2 m d.kept.length L2) : Cl w w2 g k m c d L2 := by
  have hl := (World.ownsRow.lt h.row k rfl).2
  refine ⟨(ho.block g (blk_lt h.blk) (by simpa using h.gm)).trans h.blk, own_block h.row (ho.block k hl (by simpa using h.km)), hm, h.gk, h.gm, h.km, h.g0, h.k0, h.m0, ?_⟩
  exact h.below.grown ho h.below.size (fun k hk => by injection hk with hk; have := h.m0; omega)
theorem cloned_start (L : Nat → Option (List UInt8)) : (fun _ => none) = cloned L (fun i => (L i).isSome) := by
  funext i
  unfold cloned
  cases h : L i with
  | none => simp
  | some s => simp [h]
theorem cloned_step {L : Nat → Option (List UInt8)} {left : Nat → Bool} {i : Nat} {s : List UInt8} (h : L i = some s) : (fun j => if j = i then some s else cloned L left j) = cloned L (fun j => left j && !decide (j = i)) := by
  funext j
  unfold cloned
  by_cases e : j = i
  · subst e; simp [h]
  · simp [e]
theorem made_drew (w : World) (N : Nat) : MapIs (w.alloc (.map #[] 0)).drew w.heap.size N (fun _ => none) := (mapIs_made w N).heap rfl
set_option maxRecDepth 100000 in
set_option maxHeartbeats 3200000 in
theorem dclone_any (g k m c : Nat) (d : Dsk) (w : World) (h : DkAt w g k m c d) :
    Calls Try.prog 31 #[.pointer (some ⟨g, 0, none⟩)] w fun e w' => ∃ g2 k2 m2 c2, e = .returned (.pointer (some ⟨g2, 0, none⟩)) ∧ DkAt w' g2 k2 m2 c2 d ∧ w.heap.size ≤ g2 ∧ w.heap.size ≤ k2 ∧ w.heap.size ≤ m2 ∧ Below w.heap.size w w' := by
  have h0 := h.ok.pos
  have hmo := h.ok.most
  have hq0 : ((d.kept.length : Int) == 0) = false := by rw [beq_eq_false_iff_ne]; omega
  have HS := Lib.hid (size_any g k m c d w h)
  have HC : Hid (∀ w2, Below w.heap.size w w2 → w2.cell? ⟨g, 0, none⟩ = some (.bool d.bound) ∧ w2.cell? ⟨g, 1, none⟩ = some (.int .i64 d.left) ∧ w2.cell? ⟨g, 2, none⟩ = some (.bool d.dead) ∧ w2.cell? ⟨g, 3, none⟩ = some (.slice (some ⟨k, 0, none⟩) d.kept.length c)) :=
    fun w2 hb => ⟨(h.below hb).c0, (h.below hb).c1, (h.below hb).c2, (h.below hb).c3⟩
  have HD := Lib.hid h
  have HL := Lib.hid (fun w2 (hb : Below w.heap.size w w2) => Lies.of_own (h.below hb).row)
  have HSc := Lib.hid (fun w2 hr => sclone_any ⟨k, 0, none⟩ c d.kept w2 hmo h0 hr)
  have hmm := @run_makeMap Try.prog
  have hbd := Lib.hid ((Below.refl w.heap.size w).drew)
  have hba : Hid (Below w.heap.size w (w.alloc (.map #[] 0)).drew) := ((Below.refl w.heap.size w).alloc (Nat.le_refl _) _).drew
  obtain ⟨x0, x1, x2, x3⟩ := HC.out _ hbd.out
  obtain ⟨y0, y1, y2, y3⟩ := HC.out _ hba.out
  clear h
  go_enter Try.func31, Try.ntmps31
  go_wp2_with (go_at_call 11; refine HS.out.mono ?_; rintro e w' ⟨rfl, rfl⟩)
  go_cut [3] from 6 (fun s3 w2 => ∃ g2 k2 m2 c2, s3 = .pointer (some ⟨g2, 0, none⟩) ∧ Cl w w2 g2 k2 m2 c2 d (fun _ => none))
  case first =>
    go_region_law (first
      | (go_simp; go_at_call 55; refine (HSc.out _ (HL.out _ hbd.out)).mono ?_; rintro e w2 ⟨k2, c2, rfl, hown, hk2, hb2⟩
         have hb02 := hbd.out.trans hb2
         have hb02m := Lib.hid (hb02.alloc hb02.size (.map #[] 0))
         obtain ⟨z0, z1, z2, z3⟩ := HC.out _ hb02
         obtain ⟨u0, u1, u2, u3⟩ := HC.out _ hb02m.out)
      | (go_simp; go_at_call 55; refine (HSc.out _ (HL.out _ hba.out)).mono ?_; rintro e w2 ⟨k2, c2, rfl, hown, hk2, hb2⟩
         have hb02 := hba.out.trans (hb2.mono hba.out.size)
         obtain ⟨z0, z1, z2, z3⟩ := HC.out _ hb02))
    all_goals simp only [Act.put, List.getElem_toArray, List.getElem_cons_succ, List.getElem_cons_zero, List.setIfInBounds_toArray, List.set_cons_zero, List.set_cons_succ]
    all_goals go_wp2_with fail
    all_goals go_meet
    all_goals first
      | exact ⟨_, _, _, _, rfl, clA hown hk2 hb02⟩
      | exact ⟨_, _, _, _, rfl, clB hown (by simpa using hk2) hb02 ((made_drew w _).below hb2)⟩
  case rest =>
    obtain ⟨g2, k2, m2, c2, rfl, hC⟩ := hcut
    clear x0 x1 x2 x3 y0 y1 y2 y3 hbd hba HSc HL hmm HC
    have hdC := HD.out.below hC.below
    have k4 := hdC.c4
    have hM := hdC.map
    go_wp2_with (at_range; refine wpList_range_map rfl _ rfl m _ _ rfl hM ?_; intro w2 cnt hrg hg2 hs2)
    go_frame
    obtain ⟨r, hr⟩ : ∃ r, r = wc.heap.size := ⟨_, rfl⟩
    have hwr : w.heap.size ≤ r := hr ▸ hC.below.size
    have hgr : g2 < r := hr ▸ blk_lt hC.blk
    have hkr : k2 < r := hr ▸ (World.ownsRow.lt hC.row k2 rfl).2
    have hmr : m2 < r := hr ▸ hC.map.lt
    have hC2 : Cl w w2 g2 k2 m2 c2 d (fun _ => none) := hC.only (r := r) ⟨hg2.os, hg2.tape, hg2.output, hg2.size, fun i hi _ => hg2.block i hi (by simp)⟩ hwr (by omega) (by omega) (by omega)
    rw [cloned_start d.loose] at hC2
    rw [← hr] at hrg ⊢
    have hml := HD.out.lt.2.2
    have hm2 := hC.m0
    have HOk := Lib.hid HD.out.ok
    clear hC hdC k4 hM hg2 hs2 hr HS HD
    go_loopg [4] cnt (fun x s4 wr => ∃ left : Nat → Bool, MapRg wr m r d.kept.length d.loose left x ∧ Cl w wr g2 k2 m2 c2 d (cloned d.loose left))
    case atStart => exact ⟨_, hrg, hC2⟩
    case round =>
      clear hrg hC2
      obtain ⟨left, hrg, hC⟩ := hrel
      go_wp2_with (at_next; refine wpList_next_map rfl _ rfl m r d.kept.length d.loose left gk (by omega) rfl hrg ?_ ?_)
      · intro hl0
        go_wp2
        go_returns
        exact ⟨g2, k2, m2, c2, rfl, ⟨hC.blk, hC.row, hC.map.congr (fun i hi => by unfold cloned; rw [hl0 i hi]; rfl), HOk.out, hC.gk, hC.gm, hC.km⟩, hC.g0, hC.k0, hC.m0, hC.below⟩
      · intro i s w3 cnt' hi hli hLi hsl hrg3 hlt hg3 hs3 hen
        have hC3 := hC.only hg3 hwr (by omega) (by omega) (by omega)
        have k4 : w3.cell? ⟨g2, 4, none⟩ = some (.map (some m2)) := blk_cell hC3.blk
        obtain ⟨w4, hst, hM4, hg4⟩ := hC3.map.store (by omega) i hi s hsl
        rw [cloned_step hLi] at hM4
        have hC4 := hC3.put hg4 hM4
        have hrg4 := hrg3.kept hg4 (by intro e; injection e with e; omega) (by intro e; injection e with e; omega)
        clear hrg hC hC3 hM4 hrg3 hg3 hg4 hLi hli
        go_wp2
        go_roundg cnt'
        case measure => exact hlt
        case rel => exact ⟨_, hrg4, hC4⟩
end Go.Proofs.Ytjfpanamkkdebaa
