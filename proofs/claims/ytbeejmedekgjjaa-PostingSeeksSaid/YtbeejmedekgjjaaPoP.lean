/- Postings decoded: plain, and the walk of Decode. -/
import Derived.Test.YtbeejmedekgjjaaPoO
namespace Go.Proofs.Ytbeejmedekgjjaa
open Go.RowKit
set_option linter.unusedVariables false
set_option linter.unusedSimpArgs false
/-- All that one tells, and how it ends. -/
def allI : Nat → It → List Post × It
  | 0, t => ([], t)
  | n + 1, t => match t.nextP with
    | none => ([], t.nextIt)
    | some p => (p :: (allI n t.nextIt).1, (allI n t.nextIt).2)
theorem allI_none {n : Nat} {t : It} (h : t.nextP = none) : allI (n + 1) t = ([], t.nextIt) := by rw [allI, h]
theorem allI_some {n : Nat} {t : It} {p : Post} (h : t.nextP = some p) : allI (n + 1) t = (p :: (allI n t.nextIt).1, (allI n t.nextIt).2) := by rw [allI, h]
def openIt (bs : List UInt8) : It := { runs := (numS 65536 (some bs)).2, run := some [], left := (numS 65536 (some bs)).1, inn := 0, last := -1, top := -1, bad := false }
theorem openIt_ok {bs : List UInt8} (h : bs.length ≤ 140737488355300) : (openIt bs).Ok := by
  have h1 := numS_le 65536 (some bs)
  refine ⟨by show (0:Nat) ≤ 4; omega, Nat.zero_le _, ?_, by show (-1:Int) ≤ -1; omega, by show (-1:Int) ≤ 65536; omega, by show (-1:Int) ≤ -1; omega, by show (-1:Int) ≤ 65536; omega, fun _ => ⟨by show (-1:Int) ≤ 65535; omega, by show (-1:Int) ≤ 65535; omega⟩, numS_len (fun b hb => by cases hb; exact h), fun b hb => by cases hb; simp⟩
  show (numS 65536 (some bs)).1 ≤ 65536
  omega
def decP (bs : List UInt8) : Option (List Post) := if (allI ((openIt bs).left + 1) (openIt bs)).2.isBad then none else some (allI ((openIt bs).left + 1) (openIt bs)).1
theorem It.next_left {t : It} {p : Post} (h : t.nextP = some p) : t.nextIt.left + 1 = t.left := by
  unfold It.nextP at h
  split at h
  · rename_i ha
    obtain ⟨hb, hl⟩ := It.alive_not ha
    split at h
    · cases h
    · rename_i hrb
      unfold It.nextIt
      rw [if_pos ha, if_neg hrb]
      show t.ready.left - 1 + 1 = t.left
      have : t.ready.left = t.left := by unfold It.ready; split <;> rfl
      omega
  · cases h
/-- A posting that lies apart: from one block on, not in another row's block, not in a reader's. -/
structure Kept (p : LPost) (w : World) (base : Nat) (V : Option Nat) (r : Nat) : Prop where
  i : p.In w
  a : ∀ a, p.S = some a → base ≤ a.block ∧ a.block < w.heap.size ∧ V ≠ some a.block ∧ a.block ≠ r
  s : ∀ s ∈ p.spots, ∀ a, s.A = some a → base ≤ a.block ∧ a.block < w.heap.size ∧ V ≠ some a.block ∧ a.block ≠ r
theorem Kept.only {p : LPost} {w w' : World} {base r r' : Nat} {V : Option Nat} {S : List Nat} (h : Kept p w base V r) (hg : Only w w' S) (hS : ∀ i ∈ S, i < base ∨ i = r) (hr : r' = r ∨ w.heap.size ≤ r') : Kept p w' base V r' := by
  have key : ∀ a : Addr, base ≤ a.block ∧ a.block < w.heap.size ∧ V ≠ some a.block ∧ a.block ≠ r → a.block ∉ S ∧ base ≤ a.block ∧ a.block < w'.heap.size ∧ V ≠ some a.block ∧ a.block ≠ r' := by
    intro a ⟨h1, h2, h3, h4⟩
    refine ⟨fun hm => ?_, h1, Nat.lt_of_lt_of_le h2 hg.size, h3, ?_⟩
    · rcases hS _ hm with h | h
      · omega
      · exact h4 h
    · rcases hr with rfl | h
      · exact h4
      · omega
  exact ⟨⟨lies_only h.i.li hg (fun a ha => (key a (h.a a ha)).1), h.i.c, h.i.m, fun s hs => (h.i.s s hs).only hg (fun a ha => (key a (h.s s hs a ha)).1), h.i.d⟩, fun a ha => (key a (h.a a ha)).2, fun s hs a ha => (key a (h.s s hs a ha)).2⟩
theorem Kept.grown {p : LPost} {w w' : World} {base r g : Nat} {V : Option Nat} (h : Kept p w base V r) (hg : w.grownBy w' V) (hat : V = some g ∨ w.heap.size ≤ g) : Kept p w' base (some g) r := by
  have key : ∀ a : Addr, base ≤ a.block ∧ a.block < w.heap.size ∧ V ≠ some a.block ∧ a.block ≠ r → base ≤ a.block ∧ a.block < w'.heap.size ∧ some g ≠ some a.block ∧ a.block ≠ r := by
    intro a ⟨h1, h2, h3, h4⟩
    refine ⟨h1, Nat.lt_of_lt_of_le h2 hg.size, ?_, h4⟩
    intro e
    injection e with e
    rcases hat with h | h
    · exact h3 (by rw [h, e])
    · omega
  exact ⟨⟨h.i.li.grown hg (fun a ha e => (h.a a ha).2.2.1 e.symm), h.i.c, h.i.m, fun s hs => (h.i.s s hs).grown hg (fun a ha => (h.s s hs a ha).2.2.1), h.i.d⟩, fun a ha => key a (h.a a ha), fun s hs a ha => key a (h.s s hs a ha)⟩
theorem clean_pk (ls : List LPost) : Clean (ls.flatMap pk) := by
  intro v hv x
  obtain ⟨s, _, hs⟩ := List.mem_flatMap.1 hv
  simp only [pk, List.mem_cons, List.mem_nil_iff, or_false] at hs
  rcases hs with rfl | rfl <;> simp
set_option maxRecDepth 100000 in
set_option maxHeartbeats 3200000 in
theorem decode_any (A : Option Addr) (c : Nat) (bs : List UInt8) (w : World) (hm : bs.length ≤ 140737488355300) (hA : A = none → c = 0) (hr : RB w A bs) :
    Calls Try.prog 10 #[.slice A bs.length c] w fun e w' => Below w.heap.size w w' ∧ (decP bs = none → e = .returned (.tuple #[.slice none 0 0, .int .i64 3])) ∧
      (∀ l, decP bs = some l → ∃ A' c' ls, e = .returned (.tuple #[.slice A' ls.length c', .int .i64 0]) ∧ Posts w' A' c' ls ∧ ls.map LPost.p = l) := by
  have HOp := Lib.hid (open_any A c bs w hm hA hr)
  have hok := openIt_ok hm
  have HD : Hid (decP bs = if (allI ((openIt bs).left + 1) (openIt bs)).2.isBad then none else some (allI ((openIt bs).left + 1) (openIt bs)).1) := rfl
  have HOI : Hid ({ runs := (numS 65536 (some bs)).2, run := some [], left := (numS 65536 (some bs)).1, inn := 0, last := -1, top := -1, bad := false } = openIt bs) := rfl
  rw [HOI.out] at HOp
  clear HOI
  generalize openIt bs = it0 at HOp hok HD
  clear hr
  obtain ⟨TT, hTT⟩ : ∃ TT, allI (it0.left + 1) it0 = TT := ⟨_, rfl⟩
  rw [hTT] at HD
  have HT := Lib.hid hTT
  clear hTT
  go_enter Try.func10, Try.ntmps10
  go_wp2_with (go_at_call 16; refine HOp.out.mono ?_; rintro e1 w1 ⟨t, g, r, rfl, hi1, ht, hg, hr, hb1⟩)
  have hlt1 := hi1.lt
  have hs1 := hb1.size
  go_loopg [5] (it0.left + 1) (fun rr o wr => ∃ (ls : List LPost) (it : It) (r : Nat), it.left < rr ∧ ls.length + it.left ≤ 65536 ∧ it.Ok ∧ ItAt wr t g r it ∧ w.heap.size ≤ r ∧ wr.ownsRow w1.heap.size 40 2 o ls.length (ls.flatMap pk) ∧ (∀ p ∈ ls, Kept p wr w1.heap.size o.ownBlock r) ∧ (∀ k, o.ownBlock = some k → NoBytes wr k ∧ k ≠ r) ∧ ls.map LPost.p ++ (allI rr it).1 = TT.1 ∧ (allI rr it).2 = TT.2 ∧ Below w.heap.size w wr ∧ w1.heap.size ≤ wr.heap.size)
  case atStart => exact ⟨[], it0, r, by omega, by have := hok.l; simpa using this, hok, hi1, hr, World.ownsRow_nil _ _ _ _, by simp, by intro k hk; simp [Value.ownBlock] at hk, by rw [HT.out]; rfl, by rw [HT.out], hb1, Nat.le_refl _⟩
  case round =>
    obtain ⟨ls, it, r2, hll, hl6, hio, hi, hr2, hown, hkp, hnb, hT1, hT2, hb, hsz⟩ := hrel
    obtain ⟨n, rfl⟩ : ∃ n, gk = n + 1 := ⟨gk - 1, by omega⟩
    have HNx := Lib.hid (next_any t g r2 it wr hi hio)
    have hlr := hi.lt
    have hok2 := hio.next
    obtain ⟨Av, cv, rfl, hcv⟩ := own_form hown
    cases hnp : it.nextP with
    | none =>
      rw [allI_none hnp] at hT1 hT2
      rw [hnp] at HNx
      have hTn : TT.2 = it.nextIt := hT2.symm
      have hT1 : ls.map LPost.p = TT.1 := by simpa using hT1
      have HD2 : Hid (decP bs = if it.nextIt.isBad = true then none else some (ls.map LPost.p)) := by show _ = _; rw [HD.out, hTn, hT1]
      have HBd := Lib.hid (fun (w4 : World) (r3 : Nat) (h4 : ItAt w4 t g r3 it.nextIt) => bad_any t g r3 it.nextIt w4 h4 hok2.g)
      have HK := Lib.hid (⟨hown, hkp, hnb, hb, hsz, hi⟩ : wr.ownsRow w1.heap.size 40 2 (.slice Av ls.length cv) ls.length (ls.flatMap pk) ∧ (∀ p ∈ ls, Kept p wr w1.heap.size (Value.slice Av ls.length cv).ownBlock r2) ∧ (∀ k, (Value.slice Av ls.length cv).ownBlock = some k → NoBytes wr k ∧ k ≠ r2) ∧ Below w.heap.size w wr ∧ w1.heap.size ≤ wr.heap.size ∧ ItAt wr t g r2 it)
      have HT0 := Lib.hid (⟨ht, hg, hr2⟩ : w.heap.size ≤ t ∧ w.heap.size ≤ g ∧ w.heap.size ≤ r2)
      clear hT1 hT2 hTn hown hkp hnb hb hi hok2 hio HT HD hr2 hi1 hb1 hnp
      cases hbd : it.nextIt.isBad with
      | true =>
        rw [hbd] at HD2 HBd
        clear hbd
        go_wp2_with (first
          | (go_at_call 17; refine HNx.out.mono ?_; rintro e2 w2 ⟨r3, hi2, hr3, ho2, he, _⟩
             obtain rfl := he rfl
             have hi3 := hi2.below ((Below.refl w2.heap.size w2).alloc (Nat.le_refl _) (.cells #[.int .i64 0, .slice none 0 0] 40)))
          | (go_at_call 19; refine (HBd.out _ _ hi3).mono ?_; rintro e4 w4 ⟨rfl, rfl⟩))
        go_returns
        refine ⟨(HK.out.2.2.2.1.trans (ho2.below (by have := HT0.out; intro i hi; simp at hi; omega) HK.out.2.2.2.1.size)).alloc (Nat.le_trans HK.out.2.2.2.1.size ho2.size) _, fun _ => rfl, fun l hl => ?_⟩
        rw [HD2.out] at hl
        cases hl
      | false =>
        rw [hbd] at HD2 HBd
        clear hbd
        go_wp2_with (first
          | (go_at_call 17; refine HNx.out.mono ?_; rintro e2 w2 ⟨r3, hi2, hr3, ho2, he, _⟩
             obtain rfl := he rfl
             have hi3 := hi2.below ((Below.refl w2.heap.size w2).alloc (Nat.le_refl _) (.cells #[.int .i64 0, .slice none 0 0] 40)))
          | (go_at_call 19; refine (HBd.out _ _ hi3).mono ?_; rintro e4 w4 ⟨rfl, rfl⟩))
        go_returns
        obtain ⟨hown, hkp, hnb, hb, _, hi⟩ := HK.out
        have hal := (Below.refl w2.heap.size w2).alloc (Nat.le_refl _) (.cells #[.int .i64 0, .slice none 0 0] 40)
        refine ⟨(hb.trans (ho2.below (by have := HT0.out; intro i hi; simp at hi; omega) hb.size)).alloc (Nat.le_trans hb.size ho2.size) _, fun h => ?_, fun l hl => ?_⟩
        · rw [HD2.out] at h; cases h
        · rw [HD2.out] at hl
          have hl : ls.map LPost.p = l := by simpa using hl
          have hown2 := own_only hown ho2 (by intro k hk; have := (hnb k hk).2; have := World.ownsRow.lt hown k hk; simp; omega)
          have hk2 : ∀ p ∈ ls, Kept p w2 w1.heap.size (Value.slice Av ls.length cv).ownBlock r3 := fun p hp => (hkp p hp).only ho2 (by intro i hi; simp at hi; omega) hr3
          exact ⟨Av, cv, ls, rfl, ⟨(Lies.of_own hown2).below hal, fun p hp => (hk2 p hp).i.below hal, hcv, by omega⟩, hl⟩
    | some q =>
      rw [allI_some hnp] at hT1 hT2
      have hnl := It.next_left hnp
      rw [hnp] at HNx
      have HT1 := Lib.hid hT1
      have HT2 := Lib.hid hT2
      clear hT1 hT2 HD HT hnp
      go_upto_region 4 with (go_at_call 17; refine HNx.out.mono ?_; rintro e2 w2 ⟨r3, hi2, hr3, ho2, _, he⟩
                             obtain ⟨pp, rfl, hpi, hpp, bb, hbb, hbw, hpf⟩ := he q rfl)
      have hown2 := own_only hown ho2 (by intro k hk; have := (hnb k hk).2; have := World.ownsRow.lt hown k hk; simp; omega)
      have hnb2 : ∀ k, (Value.slice Av ls.length cv).ownBlock = some k → NoBytes w2 k ∧ k ≠ r3 := fun k hk => by
        have h1 := hnb k hk
        have h2 := World.ownsRow.lt hown k hk
        exact ⟨h1.1.block (ho2.block k h2.2 (by simp; omega)), by omega⟩
      have hk2 : ∀ p ∈ ls, Kept p w2 w1.heap.size (Value.slice Av ls.length cv).ownBlock r3 := fun p hp => (hkp p hp).only ho2 (by intro i hi; simp at hi; omega) hr3
      have hkn : Kept pp w2 w1.heap.size (Value.slice Av ls.length cv).ownBlock r3 := ⟨hpi, fun a ha => by
          have h1 := hpf.1 a ha
          refine ⟨by omega, h1.2, fun e => ?_, by omega⟩
          have := World.ownsRow.lt hown _ e
          omega, fun s hs a ha => by
          have h1 := hpf.2 s hs a ha
          refine ⟨by omega, h1.2, fun e => ?_, by omega⟩
          have := World.ownsRow.lt hown _ e
          omega⟩
      have hb2 : Below w.heap.size w w2 := hb.trans (ho2.below (by intro i hi; simp at hi; omega) hb.size)
      have hr3w : w.heap.size ≤ r3 := by rcases hr3 with rfl | h; exact hr2; exact Nat.le_trans hb.size h
      have hs2 := ho2.size
      clear hown hkp hnb hb hi hio HNx hpf ho2 hpi
      have hi3 := hi2.below ((Below.refl w2.heap.size w2).alloc (Nat.le_refl _) (.cells #[.int .i64 pp.d, .slice pp.S pp.spots.length pp.c] 40))
      have hX := heap_alloc_new w2 (.cells #[.int .i64 pp.d, .slice pp.S pp.spots.length pp.c] 40)
      have hown3 := World.ownsRow.alloc hown2 (.cells #[.int .i64 pp.d, .slice pp.S pp.spots.length pp.c] 40)
      have hal := (Below.refl w2.heap.size w2).alloc (Nat.le_refl _) (.cells #[.int .i64 pp.d, .slice pp.S pp.spots.length pp.c] 40)
      have hnb3 : ∀ k, (Value.slice Av ls.length cv).ownBlock = some k → NoBytes (w2.alloc (.cells #[.int .i64 pp.d, .slice pp.S pp.spots.length pp.c] 40)) k ∧ k ≠ r3 := fun k hk => ⟨(hnb2 k hk).1.block (heap_alloc_old w2 _ (World.ownsRow.lt hown2 k hk).2), (hnb2 k hk).2⟩
      have hk3 : ∀ p, p ∈ ls ∨ p = pp → Kept p (w2.alloc (.cells #[.int .i64 pp.d, .slice pp.S pp.spots.length pp.c] 40)) w1.heap.size (Value.slice Av ls.length cv).ownBlock r3 := by
        intro p hp
        rcases hp with hp | rfl
        · exact (hk2 p hp).only (Only.of_below hal []) (by simp) (.inl rfl)
        · exact hkn.only (Only.of_below hal []) (by simp) (.inl rfl)
      have hb3 := hb2.alloc hb2.size (.cells #[.int .i64 pp.d, .slice pp.S pp.spots.length pp.c] 40)
      have hsA : (w2.alloc (.cells #[.int .i64 pp.d, .slice pp.S pp.spots.length pp.c] 40)).heap.size = w2.heap.size + 1 := by simp
      have hw2x := hi2.lt
      clear hi2 hown2 hnb2 hk2 hkn hb2 hal
      generalize w2.alloc (.cells #[.int .i64 pp.d, .slice pp.S pp.spots.length pp.c] 40) = wX at *
      have qX0 : wX.cell? ⟨w2.heap.size, 0, none⟩ = some (.int .i64 pp.d) := blk_cell hX
      have qX1 : wX.cell? ⟨w2.heap.size, 1, none⟩ = some (.slice pp.S pp.spots.length pp.c) := blk_cell hX
      have hB := heap_alloc_new wX (.cells #[.int .i64 pp.d, .slice pp.S pp.spots.length pp.c] 40)
      have qB0 : (wX.alloc (.cells #[.int .i64 pp.d, .slice pp.S pp.spots.length pp.c] 40)).cell? ⟨wX.heap.size, 0, none⟩ = some (.int .i64 pp.d) := blk_cell hB
      have qB1 : (wX.alloc (.cells #[.int .i64 pp.d, .slice pp.S pp.spots.length pp.c] 40)).cell? ⟨wX.heap.size, 1, none⟩ = some (.slice pp.S pp.spots.length pp.c) := blk_cell hB
      have hownB := World.ownsRow.alloc hown3 (.cells #[.int .i64 pp.d, .slice pp.S pp.spots.length pp.c] 40)
      have hnbB : ∀ k, (Value.slice Av ls.length cv).ownBlock = some k → NoBytes (wX.alloc (.cells #[.int .i64 pp.d, .slice pp.S pp.spots.length pp.c] 40)) k := fun k hk => (hnb3 k hk).1.block (heap_alloc_old wX _ (World.ownsRow.lt hown3 k hk).2)
      have halB := (Below.refl wX.heap.size wX).alloc (Nat.le_refl _) (.cells #[.int .i64 pp.d, .slice pp.S pp.spots.length pp.c] 40)
      have hiB := hi3.below halB
      have hbX : w1.heap.size ≤ (wX.alloc (.cells #[.int .i64 pp.d, .slice pp.S pp.spots.length pp.c] 40)).heap.size := by simp; omega
      have hBs : (wX.alloc (.cells #[.int .i64 pp.d, .slice pp.S pp.spots.length pp.c] 40)).heap.size = wX.heap.size + 1 := by simp
      have hn1 : ∀ k, (Value.slice Av ls.length cv).ownBlock = some k → k < wX.heap.size ∧ w1.heap.size ≤ k := fun k hk => ⟨(World.ownsRow.lt hown3 k hk).2, (World.ownsRow.lt hown3 k hk).1⟩
      have HKp := Lib.hid (fun p hp => (hk3 p hp).only (Only.of_below halB []) (by simp) (.inl rfl))
      have HBw := Lib.hid (hb3.alloc hb3.size (.cells #[.int .i64 pp.d, .slice pp.S pp.spots.length pp.c] 40))
      have HLL : Hid (maxLen = 9223372036854775807) := rfl
      have HiB := Lib.hid hiB
      have HnB := Lib.hid (fun k hk => (⟨hnbB k hk, (hnb3 k hk).2⟩ : NoBytes (wX.alloc (.cells #[.int .i64 pp.d, .slice pp.S pp.spots.length pp.c] 40)) k ∧ k ≠ r3))
      have hl6' : ls.length + 1 ≤ 65536 := by omega
      have HsA := Lib.hid hsA
      have HBs := Lib.hid hBs
      clear hsA hBs hB halB hiB hk3 hb3 hown3 hnb3 hX hi3
      go_wp2_with (at_builtin; go_loud (refine wpList_two rfl _ _ 22 rfl w1.heap.size 40 _ 32 Try.underlying22 info_posts rfl (Value.slice Av ls.length cv) ls.length (ls.flatMap pk) rfl hownB hnbB ⟨wX.heap.size, 0, none⟩ (.int .i64 pp.d) (.slice pp.S pp.spots.length pp.c) rfl qB0 qB1 rfl rfl (clean_pair _ _ _ _) (clean_pair 0 none 0 0) (clean_pk ls) (by rw [HLL.out]; omega) (by omega) hbX ?_; intro g4 cap4 w4 hown4 hg4 hat4 hlt4 hnb4))
      clear qX0 qX1 qB0 qB1 hownB hnbB
      have hs4 := hg4.size
      have hBs := HBs.out
      have hsA := HsA.out
      rw [hBs] at hs4 hat4
      have hat5 : (Value.slice Av ls.length cv).ownBlock = some g4 ∨ (wX.alloc (.cells #[.int .i64 pp.d, .slice pp.S pp.spots.length pp.c] 40)).heap.size ≤ g4 := by rcases hat4 with h | h; exact .inl h; exact .inr (by omega)
      have hlB := HiB.out.lt
      have hr3g : g4 ≠ r3 := by
        rcases hat4 with h | h
        · exact (HnB.out _ h).2
        · omega
      have hgt : w1.heap.size ≤ g4 := by
        rcases hat4 with h | h
        · exact (hn1 _ h).2
        · omega
      have hO4 : Only (wX.alloc (.cells #[.int .i64 pp.d, .slice pp.S pp.spots.length pp.c] 40)) w4 (Value.slice Av ls.length cv).ownBlock.toList := ⟨hg4.os, hg4.tape, hg4.output, hg4.size, fun i hi hn => hg4.block i hi (fun e => hn (by rw [← e]; simp))⟩
      have hmem : ∀ k, k ∈ (Value.slice Av ls.length cv).ownBlock.toList → NoBytes (wX.alloc (.cells #[.int .i64 pp.d, .slice pp.S pp.spots.length pp.c] 40)) k ∧ k ≠ r3 ∧ w1.heap.size ≤ k := fun k hk => by
        have hk : (Value.slice Av ls.length cv).ownBlock = some k := by simpa using hk
        exact ⟨(HnB.out k hk).1, (HnB.out k hk).2, (hn1 k hk).2⟩
      go_roundg n
      case measure => omega
      case rel =>
        refine ⟨ls ++ [pp], it.nextIt, r3, by omega, by simp; omega, hok2, ?_, hr3w, ?_, ?_, ?_, ?_, HT2.out, ?_, by omega⟩
        · exact HiB.out.only hO4 (fun h => by have := (hmem _ h).2.2; omega) (fun h => by have := (hmem _ h).2.2; omega) (fun h => (hmem _ h).2.1 rfl) (fun k hk => (hmem k hk).1)
        · have e1 : (ls ++ [pp]).length = ls.length + 1 := by simp
          have e2 : (ls ++ [pp]).flatMap pk = ls.flatMap pk ++ [.int .i64 pp.d, .slice pp.S pp.spots.length pp.c] := by simp [List.flatMap_append, pk]
          rw [e1, e2]
          exact hown4
        · intro p hp
          have hp2 : p ∈ ls ∨ p = pp := by simpa using hp
          exact (HKp.out p hp2).grown hg4 hat5
        · intro k hk
          cases hk
          exact ⟨hnb4, hr3g⟩
        · have := HT1.out
          rw [List.map_append, List.append_assoc]
          simpa [hpp] using this
        · exact HBw.out.trans (hO4.below (fun i hi => by have := (hmem i hi).2.2; omega) HBw.out.size)
end Go.Proofs.Ytbeejmedekgjjaa
