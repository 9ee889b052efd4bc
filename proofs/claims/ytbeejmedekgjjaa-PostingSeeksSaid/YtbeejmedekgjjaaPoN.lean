/- One that goes through postings: the walk of one. -/
import Derived.Test.YtbeejmedekgjjaaPoM
import Derived.Deep.RegionHeld
namespace Go.Proofs.Ytbeejmedekgjjaa
open Go.RowKit
set_option linter.unusedVariables false
set_option linter.unusedSimpArgs false
theorem below_drewN {B : Nat} {a w : World} (h : Below B a w) (n : Nat) : Below B a (w.drewN n) := h.trans ⟨rfl, rfl, rfl, Nat.le_refl _, fun _ _ => rfl⟩
/-- What End answers, known ahead. -/
theorem send_code (g : Nat) (o : Option (List UInt8)) (w : World) (h : RdS w g o) :
    ∃ c : Nat, (overS o = true → c = 0) ∧ (overS o = false → 0 < c) ∧ ∀ n, Calls Try.prog 40 #[.pointer (some ⟨g, 0, none⟩)] (w.drewN n) fun e w' => e = .returned (.int .i64 c) ∧ w' = w.drewN n := by
  have hd := fun n => below_drewN (Below.refl w.heap.size w) n
  cases o with
  | none =>
    obtain ⟨c, h⟩ := h
    refine ⟨c, by simp [overS], fun _ => h.pos, fun n => ?_⟩
    have HL := Lib.hid (left_no g c _ (h.alike (hd n)))
    have HE := Lib.hid (err_no g c _ (h.alike (hd n)))
    have hp := h.pos
    clear h hd
    generalize w.drewN n = w at *
    go_enter Try.func40, Try.ntmps40
    go_wp2_with (first
      | (go_at_call 54; refine HL.out.mono ?_; rintro e w1 ⟨rfl, rfl⟩)
      | (go_at_call 39; refine HE.out.mono ?_; rintro e w1 ⟨rfl, rfl⟩))
    go_returns
    exact ⟨rfl, rfl⟩
  | some bs =>
    cases bs with
    | nil =>
      refine ⟨0, by simp, by simp [overS], fun n => ?_⟩
      have HL := Lib.hid (rleftok g [] _ (RdOk.alike h (hd n)))
      have HE := Lib.hid (rerrok g [] _ (RdOk.alike h (hd n)))
      clear h hd
      generalize w.drewN n = w at *
      go_enter Try.func40, Try.ntmps40
      go_wp2_with (first
        | (go_at_call 54; refine HL.out.mono ?_; rintro e w1 ⟨rfl, rfl⟩)
        | (go_at_call 39; refine HE.out.mono ?_; rintro e w1 ⟨rfl, rfl⟩))
      go_returns
      exact ⟨rfl, rfl⟩
    | cons b bs =>
      refine ⟨3, by simp [overS], by simp, fun n => ?_⟩
      have HL := Lib.hid (rleftok g (b :: bs) _ (RdOk.alike h (hd n)))
      have HE := Lib.hid (rerrok g (b :: bs) _ (RdOk.alike h (hd n)))
      have hq : decide (((b :: bs).length : Int) > 0) = true := decide_eq_true (by simp)
      have hl2 : ((b :: bs).length : Int) > 0 := by simp
      clear h hd
      generalize ((b :: bs).length : Int) = m at HL hq hl2
      generalize w.drewN n = w at *
      go_enter Try.func40, Try.ntmps40
      go_wp2_with (first
        | (go_at_call 54; refine HL.out.mono ?_; rintro e w1 ⟨rfl, rfl⟩)
        | (go_at_call 39; refine HE.out.mono ?_; rintro e w1 ⟨rfl, rfl⟩))
      go_returns
      exact ⟨rfl, rfl⟩
/-- What Err answers, known ahead. -/
theorem serr_code (g : Nat) (o : Option (List UInt8)) (w : World) (h : RdS w g o) :
    ∃ c : Nat, (o.isSome = true → c = 0) ∧ (o.isSome = false → 0 < c) ∧ ∀ w', Below w.heap.size w w' → Calls Try.prog 39 #[.pointer (some ⟨g, 0, none⟩)] w' fun e w'' => e = .returned (.int .i64 c) ∧ w'' = w' := by
  cases o with
  | none =>
    obtain ⟨c, h⟩ := h
    refine ⟨c, by simp, fun _ => h.pos, fun w' hb => (err_no g c w' (h.alike hb)).mono ?_⟩
    rintro e w'' ⟨rfl, rfl⟩
    exact ⟨rfl, rfl⟩
  | some bs =>
    refine ⟨0, by simp, by simp, fun w' hb => (rerrok g bs w' (RdOk.alike h hb)).mono ?_⟩
    rintro e w'' ⟨rfl, rfl⟩
    exact ⟨rfl, rfl⟩
theorem results_row_tmp {P : Program} {fn : Func} {p : Tmp} {q : Tmp} {ty : TypeId} (h : fn.results = #[.cell p ty, .tmp q]) (tmps : Array Value) (w : World) (g : Nat) (t : TypeId) (cs : Array Value) (fr : Nat × Nat) (d : TypeDesc) (v : Value)
    (hp : tmps.getD p undef = .pointer (some ⟨g, 0, none⟩)) (hq : tmps.getD q undef = v) (hg : w.heap[g]? = some (.cells cs t fr))
    (hu : P.underlying ty = some d) (hd : (match d with | .struct _ | .array _ _ => true | _ => false) = true) (hi : (P.info? ty).map (·.size) = some cs.size) :
    (results fn tmps).run P w = .ok (.tuple #[.agg cs, v]) w := by
  have hp' : tmps[p]?.getD undef = .pointer (some ⟨g, 0, none⟩) := by simpa using hp
  have hq' : tmps[q]?.getD undef = v := by simpa using hq
  simp [results, h, hp', hq', asAddr, run_loadVar_row w g t ty cs fr d hg hu hd hi]
/-- Where a posting's rows lie: from one block on. -/
def LPost.From (p : LPost) (base : Nat) (w : World) : Prop := (∀ a, p.S = some a → base ≤ a.block ∧ a.block < w.heap.size) ∧ ∀ s ∈ p.spots, ∀ a, s.A = some a → base ≤ a.block ∧ a.block < w.heap.size
theorem cell_alloc {w : World} {a : Addr} {v : Value} {o : Obj} (h : w.cell? a = some v) : (w.alloc o).cell? a = some v := by
  rw [World.cell?_alloc_lt _ _ _ (World.block_lt_of_cell? _ _ h)]; exact h
theorem RdS.only {w w' : World} {g : Nat} {S : List Nat} {o : Option (List UInt8)} (h : RdS w g o) (hk : ∀ k ∈ S, NoBytes w k) (hne : g ∉ S) (hg : Only w w' S) : RdS w' g o := by
  cases o with
  | none => obtain ⟨e, h⟩ := h; exact ⟨e, h.same (hg.block g h.lt hne)⟩
  | some bs =>
    obtain ⟨A, c, h⟩ := h
    refine ⟨A, c, by rw [hg.block g h.lt hne]; exact h.cells, fun j v hj => ?_, h.cap0, h.cap, h.block⟩
    obtain ⟨a, ha, hc⟩ := h.bytes j v hj
    refine ⟨a, ha, ?_⟩
    have hb := World.block_lt_of_cell? _ _ hc
    by_cases hm : (a.add j).block ∈ S
    · rw [List.getElem?_map] at hj
      obtain ⟨b, _, rfl⟩ := Option.map_eq_some_iff.1 hj
      exact absurd hc ((hk _ hm).cell rfl _)
    · rw [World.cell?_of_block (hg.block _ hb hm)]
      exact hc
theorem Only.fresh {a b c : World} {S T : List Nat} (h : Only a b S) (k : Only b c T) (hT : ∀ i ∈ T, i < a.heap.size → i ∈ S) : Only a c S :=
  ⟨k.os.trans h.os, k.tape.trans h.tape, k.output.trans h.output, Nat.le_trans h.size k.size, fun i hi hne =>
    (k.block i (Nat.lt_of_lt_of_le hi h.size) (fun hm => hne (hT i hm hi))).trans (h.block i hi hne)⟩
theorem SpotsIn.only {w w' : World} {base : Nat} {A : Option Addr} {c : Nat} {ls : List LSpot} {S : List Nat} (h : SpotsIn w base A c ls) (hg : Only w w' S) (hS : ∀ i ∈ S, i < base) : SpotsIn w' base A c ls :=
  ⟨lies_only h.li hg (fun a ha hm => by have := h.a a ha; have := hS _ hm; omega), h.c, h.m, fun s hs => (h.s s hs).only hg (fun a ha hm => by have := h.sa s hs a ha; have := hS _ hm; omega),
    fun a ha => ⟨(h.a a ha).1, Nat.lt_of_lt_of_le (h.a a ha).2 hg.size⟩, fun s hs a ha => ⟨(h.sa s hs a ha).1, Nat.lt_of_lt_of_le (h.sa s hs a ha).2 hg.size⟩⟩
/-- What one has read, ahead of its test. -/
structure Mid (w : World) (t g r Y base : Nat) (L I D T : Int) (bad : Bool) (o : Option (List UInt8)) (A : Option Addr) (c : Nat) (ls : List LSpot) (V : World) : Prop where
  bt : V.heap[t]? = some (.cells #[.pointer (some ⟨g, 0, none⟩), .pointer (some ⟨r, 0, none⟩), .int .i64 L, .int .i64 I, .int .i64 D, .int .i64 T, .bool bad] 66 (0, 0))
  bY : V.heap[Y]? = some (.cells #[.int .i64 D, .slice A ls.length c] 40 (0, 0))
  bp : V.heap[w.heap.size]? = some (.cells #[.int .i64 0, .slice none 0 0] 40 (0, 0))
  rr : RdS V r o
  sp : SpotsIn V base A c ls
  o : Only w V [t, r]
theorem Mid.below {w V V' : World} {t g r Y base : Nat} {L I D T : Int} {bad : Bool} {o : Option (List UInt8)} {A : Option Addr} {c : Nat} {ls : List LSpot} (h : Mid w t g r Y base L I D T bad o A c ls V) (hb : Below V.heap.size V V') : Mid w t g r Y base L I D T bad o A c ls V' :=
  ⟨(hb.block t (blk_lt h.bt)).trans h.bt, (hb.block Y (blk_lt h.bY)).trans h.bY, (hb.block _ (blk_lt h.bp)).trans h.bp, h.rr.below hb, h.sp.only (Only.of_below hb []) (by simp), h.o.trans (Only.of_below hb _)⟩
set_option maxRecDepth 100000 in
set_option maxHeartbeats 3200000 in
theorem one_any (t g r : Nat) (it : It) (w : World) (h : ItAt w t g r it) (ho : it.Ok) (hnb : it.bad = false) (hi : 0 < it.inn) :
    Calls Try.prog 37 #[.pointer (some ⟨t, 0, none⟩)] w fun e w' => ItAt w' t g r it.after ∧ Only w w' [t, r] ∧
      (it.fails = true → e = .returned (.tuple #[.agg #[.int .i64 0, .slice none 0 0], .bool false])) ∧
      (it.fails = false → ∃ p : LPost, e = .returned (.tuple #[.agg #[.int .i64 p.d, .slice p.S p.spots.length p.c], .bool true]) ∧ p.In w' ∧ p.p = (postS it.last it.run).1 ∧ p.From w.heap.size w') := by
  obtain ⟨D, hD⟩ : ∃ D, it.last = D := ⟨_, rfl⟩
  obtain ⟨T, hT⟩ : ∃ T, it.top = T := ⟨_, rfl⟩
  obtain ⟨L, hL⟩ : ∃ L : Int, (it.left : Int) = L := ⟨_, rfl⟩
  obtain ⟨I, hI⟩ : ∃ I : Int, (it.inn : Int) = I := ⟨_, rfl⟩
  have a0 := ho.a0
  have a1 := (ho.b hnb).2
  have hblk := h.blk
  rw [hD, hT, hL, hI] at hblk
  rw [hD] at a0 a1
  have htr := h.tr
  have hrr := h.rr
  have hol := ho.r
  have hlt := blk_lt hblk
  have hltr0 := h.lt.2.2
  have hx := numS_le (65534 - D) it.run
  have HN := Lib.hid (fun w' hr' => snum r (65534 - D) it.run w' hr' hol)
  obtain ⟨X, hX⟩ : ∃ X : Int, ((numS (65534 - D) it.run).1 : Int) = X := ⟨_, rfl⟩
  have hX0 : 0 ≤ X := by omega
  rw [hX] at HN hx
  have HX := Lib.hid hX
  have hw1 : IntKind.i64.wrap (65534 - D) = 65534 - D := by go_arith
  have hw2 : IntKind.i64.wrap (D + 1) = D + 1 := by go_arith
  have hw3 : IntKind.i64.wrap (D + 1 + X) = D + 1 + X := by go_arith
  have hbA := blk_alloc (o := .cells #[.int .i64 0, .slice none 0 0] 40) hblk
  have hrA := hrr.below ((Below.refl w.heap.size w).alloc (Nat.le_refl _) (.cells #[.int .i64 0, .slice none 0 0] 40))
  have hRA := heap_alloc_new w (.cells #[.int .i64 0, .slice none 0 0] 40)
  have hoA := Only.of_below ((Below.refl w.heap.size w).alloc (Nat.le_refl _) (.cells #[.int .i64 0, .slice none 0 0] 40)) [t, r]
  have HG := Lib.hid h.rg
  have HGk := Lib.hid h.rg
  have HNt := Lib.hid (noBytes_it h.blk)
  have HNr := Lib.hid hrr.noBytes
  have HTg := Lib.hid (⟨h.tg, h.gr⟩ : t ≠ g ∧ g ≠ r)
  have HEq := Lib.hid (⟨hD, hT, hL, hI⟩ : it.last = D ∧ it.top = T ∧ (it.left : Int) = L ∧ (it.inn : Int) = I)
  have HOl := Lib.hid hol
  have HPS := Lib.hid (show postS it.last it.run = (⟨D + 1 + X, (spotsS (numS 4 (numS (65534 - D) it.run).2).1 (numS 4 (numS (65534 - D) it.run).2).2).1⟩, (spotsS (numS 4 (numS (65534 - D) it.run).2).1 (numS 4 (numS (65534 - D) it.run).2).2).2) by rw [hD, ← hX]; rfl)
  have hIL : 0 < I ∧ I ≤ 4 ∧ I ≤ L ∧ L ≤ 65536 := by have := ho.i4; have := ho.il; have := ho.l; omega
  clear hX h ho hD hT hL hI hblk hrr
  go_enter Try.func37, Try.ntmps37
  go_wp2_with fail
  generalize w.alloc (.cells #[.int .i64 0, .slice none 0 0] 40) = wA at *
  go_cut [0, 2, 3, 4] from 23 (fun s0 s2 s3 s4 wc => s0 = .pointer (some ⟨t, 0, none⟩) ∧ s2 = .pointer (some ⟨w.heap.size, 0, none⟩) ∧ s3 = .bool false ∧ ∃ Y, s4 = .pointer (some ⟨Y, 0, none⟩) ∧ wc.heap[t]? = wA.heap[t]? ∧ wc.heap[w.heap.size]? = wA.heap[w.heap.size]? ∧ wc.heap[Y]? = some (.cells #[.int .i64 (D + 1 + X), .slice none 0 0] 40 (0, 0)) ∧ wA.heap.size ≤ Y ∧ RdS wc r (numS (65534 - D) it.run).2 ∧ Only w wc [t, r])
  case first =>
    have k1 : wA.cell? ⟨t, 1, none⟩ = some (.pointer (some ⟨r, 0, none⟩)) := blk_cell hbA
    have k4 : wA.cell? ⟨t, 4, none⟩ = some (.int .i64 D) := blk_cell hbA
    have HRs := Lib.hid (blk_lt hRA)
    clear hbA hRA
    refine wp_region_held_drew (S := fun w' => w'.cell? ⟨t, 1, none⟩ = some (.pointer (some ⟨r, 0, none⟩)) ∧ w'.cell? ⟨t, 4, none⟩ = some (.int .i64 D)) (by kernel_rfl) ⟨k1, k4⟩ (fun hS => ?_)
    change wpAnyH _ _ _ _ _ _ _ _ (World.drew _)
    have hrD : RdS wA.drew r it.run := hrA.below (Below.refl _ _).drew
    have hoD : Only w wA.drew [t, r] := hoA.trans (Only.of_below (Below.refl _ _).drew _)
    have HH := Lib.hid (show wA.drew.heap = wA.heap from rfl)
    have hDs : w.heap.size ≤ wA.drew.heap.size := hoD.size
    clear hrA hoA k1 k4
    generalize World.drew wA = wD at *
    have hrB := hrD.below ((Below.refl wD.heap.size wD).alloc (Nat.le_refl _) (.cells #[.int .i64 0, .slice none 0 0] 40))
    have hltr := hrD.lt
    have hYt : wD.heap.size ≠ t := by omega
    have k1D := hS.1
    have k4D := hS.2
    have hlD : t < wD.heap.size := by omega
    have HF := Lib.hid (show ∀ (Y : Nat) (wE : World), wD.grownBy wE (some r) → wE.heap[Y]? = some (.cells #[.int .i64 (D + 1 + X), .slice none 0 0] 40 (0, 0)) → wD.heap.size ≤ Y → RdS wE r (numS (65534 - D) it.run).2 → wE.heap[t]? = wA.heap[t]? ∧ wE.heap[w.heap.size]? = wA.heap[w.heap.size]? ∧ wE.heap[Y]? = some (.cells #[.int .i64 (D + 1 + X), .slice none 0 0] 40 (0, 0)) ∧ wA.heap.size ≤ Y ∧ RdS wE r (numS (65534 - D) it.run).2 ∧ Only w wE [t, r] from fun Y wE hg hY hs hr => ⟨by rw [← HH.out]; exact hg.block t hlD (by simpa using htr), by rw [← HH.out]; exact hg.block w.heap.size (by have := HRs.out; rw [← HH.out] at this; exact this) (by intro e; injection e with e; omega), hY, by rw [← HH.out]; exact hs, hr, hoD.trans ((Only.of_grown hg).mono (fun i h => by simp at h; simp [h]))⟩)
    refine wpAnyH_take (i := 0) (v := ?_) rfl (by kernel_rfl) (by kernel_rfl) (by kernel_rfl) (fun _ _ _ h => h) (Or.inl ⟨by rfl, ?_⟩) hS ?_; rotate_left; (intro w hS; obtain ⟨k1, k4⟩ := hS; go_simp); (try with_reducible rfl)
    simp only [Act.put, List.getElem_toArray, List.getElem_cons_succ, List.getElem_cons_zero, List.setIfInBounds_toArray, List.set_cons_zero, List.set_cons_succ]
    refine wpAnyH_take (i := 1) (v := ?_) rfl (by kernel_rfl) (by kernel_rfl) (by kernel_rfl) (fun _ _ _ h => h) (Or.inl ⟨by rfl, ?_⟩) hS ?_; rotate_left; (intro w hS; obtain ⟨k1, k4⟩ := hS; go_simp); (try with_reducible rfl)
    simp only [Act.put, List.getElem_toArray, List.getElem_cons_succ, List.getElem_cons_zero, List.setIfInBounds_toArray, List.set_cons_zero, List.set_cons_succ]
    refine wpAnyH_take (i := 2) (v := ?_) rfl (by kernel_rfl) (by kernel_rfl) (by kernel_rfl) (fun _ _ _ h => h) (Or.inl ⟨by rfl, ?_⟩) hS ?_; rotate_left; (intro w hS; obtain ⟨k1, k4⟩ := hS; go_simp); (try with_reducible rfl)
    simp only [Act.put, List.getElem_toArray, List.getElem_cons_succ, List.getElem_cons_zero, List.setIfInBounds_toArray, List.set_cons_zero, List.set_cons_succ]
    refine wpAnyH_take (i := 3) (v := ?_) rfl (by kernel_rfl) (by kernel_rfl) (by kernel_rfl) (fun _ _ _ h => h) (Or.inl ⟨by rfl, ?_⟩) hS ?_; rotate_left; (intro w hS; obtain ⟨k1, k4⟩ := hS; go_simp); (try with_reducible rfl)
    simp only [Act.put, List.getElem_toArray, List.getElem_cons_succ, List.getElem_cons_zero, List.setIfInBounds_toArray, List.set_cons_zero, List.set_cons_succ]
    refine wpAnyH_take (i := 4) (v := ?_) rfl (by kernel_rfl) (by kernel_rfl) (by kernel_rfl) (fun _ _ _ h => h) (Or.inl ⟨by rfl, ?_⟩) hS ?_; rotate_left; (intro w hS; obtain ⟨k1, k4⟩ := hS; go_simp); (try with_reducible rfl)
    simp only [Act.put, List.getElem_toArray, List.getElem_cons_succ, List.getElem_cons_zero, List.setIfInBounds_toArray, List.set_cons_zero, List.set_cons_succ]
    refine wpAnyH_take (i := 5) (v := ?_) rfl (by kernel_rfl) (by kernel_rfl) (by kernel_rfl) (fun _ _ _ h => h) (Or.inl ⟨by rfl, ?_⟩) hS ?_; rotate_left; (intro w hS; obtain ⟨k1, k4⟩ := hS; go_simp); (try with_reducible rfl)
    simp only [Act.put, List.getElem_toArray, List.getElem_cons_succ, List.getElem_cons_zero, List.setIfInBounds_toArray, List.set_cons_zero, List.set_cons_succ]
    refine wpAnyH_take (i := 6) (v := ?_) rfl (by kernel_rfl) (by kernel_rfl) (by kernel_rfl) (fun _ _ _ h => h) (Or.inl ⟨by rfl, ?_⟩) hS ?_; rotate_left; (intro w hS; obtain ⟨k1, k4⟩ := hS; go_simp); (try with_reducible rfl)
    simp only [Act.put, List.getElem_toArray, List.getElem_cons_succ, List.getElem_cons_zero, List.setIfInBounds_toArray, List.set_cons_zero, List.set_cons_succ]
    refine wpAnyH_take (i := 7) (v := ?_) rfl (by kernel_rfl) (by kernel_rfl) (by kernel_rfl) (fun _ _ _ h => h) (Or.inl ⟨by rfl, ?_⟩) hS ?_; rotate_left; (intro w hS; obtain ⟨k1, k4⟩ := hS; go_simp); (try with_reducible rfl)
    simp only [Act.put, List.getElem_toArray, List.getElem_cons_succ, List.getElem_cons_zero, List.setIfInBounds_toArray, List.set_cons_zero, List.set_cons_succ]
    refine wpAnyH_take (i := 8) (v := ?_) rfl (by kernel_rfl) (by kernel_rfl) (by kernel_rfl) (fun _ _ _ h => h) (Or.inl ⟨by rfl, ?_⟩) hS ?_; rotate_left; (intro w hS; obtain ⟨k1, k4⟩ := hS; go_simp); (try with_reducible rfl)
    simp only [Act.put, List.getElem_toArray, List.getElem_cons_succ, List.getElem_cons_zero, List.setIfInBounds_toArray, List.set_cons_zero, List.set_cons_succ]
    refine wpAnyH_take (i := 9) (v := ?_) rfl (by kernel_rfl) (by kernel_rfl) (by kernel_rfl) (fun _ _ _ h => h) (Or.inl ⟨by rfl, ?_⟩) hS ?_; rotate_left; (intro w hS; obtain ⟨k1, k4⟩ := hS; go_simp); (try with_reducible rfl)
    simp only [Act.put, List.getElem_toArray, List.getElem_cons_succ, List.getElem_cons_zero, List.setIfInBounds_toArray, List.set_cons_zero, List.set_cons_succ]
    refine wpAnyH_take (i := 10) (v := ?_) rfl (by kernel_rfl) (by kernel_rfl) (by kernel_rfl) (fun _ _ _ h => h) (Or.inl ⟨by rfl, ?_⟩) hS ?_; rotate_left; (intro w hS; obtain ⟨k1, k4⟩ := hS; go_simp); (try with_reducible rfl)
    simp only [Act.put, List.getElem_toArray, List.getElem_cons_succ, List.getElem_cons_zero, List.setIfInBounds_toArray, List.set_cons_zero, List.set_cons_succ]
    refine wpAnyH_take (i := 11) (v := ?_) rfl (by kernel_rfl) (by kernel_rfl) (by kernel_rfl) (fun _ _ _ h => h) (Or.inl ⟨by rfl, ?_⟩) hS ?_; rotate_left; (intro w hS; obtain ⟨k1, k4⟩ := hS; go_simp); (try with_reducible rfl)
    simp only [Act.put, List.getElem_toArray, List.getElem_cons_succ, List.getElem_cons_zero, List.setIfInBounds_toArray, List.set_cons_zero, List.set_cons_succ]
    refine wpAnyH_take (i := 12) (v := ?_) rfl (by kernel_rfl) (by kernel_rfl) (by kernel_rfl) (fun _ _ _ h => h) (Or.inl ⟨by rfl, ?_⟩) hS ?_; rotate_left; (intro w hS; obtain ⟨k1, k4⟩ := hS; go_simp); (try with_reducible rfl)
    simp only [Act.put, List.getElem_toArray, List.getElem_cons_succ, List.getElem_cons_zero, List.setIfInBounds_toArray, List.set_cons_zero, List.set_cons_succ]
    refine wpAnyH_take (i := 13) (v := ?_) rfl (by kernel_rfl) (by kernel_rfl) (by kernel_rfl) (fun _ _ _ h => h) (Or.inl ⟨by rfl, ?_⟩) hS ?_; rotate_left; (intro w hS; obtain ⟨k1, k4⟩ := hS; go_simp); (try with_reducible rfl)
    simp only [Act.put, List.getElem_toArray, List.getElem_cons_succ, List.getElem_cons_zero, List.setIfInBounds_toArray, List.set_cons_zero, List.set_cons_succ]
    refine wpAnyH_ready (rs := [14, 17]) (by kernel_rfl) (by simp) ?_
    refine AllReadyH.cons rfl (fun K hK => ?_) (AllReadyH.cons rfl (fun K hK => ?_) AllReadyH.nil)
    · go_simp
      go_at_call 34
      refine (HN.out _ (by first | exact hrD | exact hrB)).mono ?_
      rintro e1 w1 ⟨rfl, hr1, hg1⟩
      try (have hY := (hg1.block wD.heap.size (by simp) (by intro e; injection e with e; omega)).trans (heap_alloc_new wD (.cells #[.int .i64 0, .slice none 0 0] 40)); have qY0 : w1.cell? ⟨wD.heap.size, 0, none⟩ = some (.int .i64 0) := blk_cell hY; have qY1 : w1.cell? ⟨wD.heap.size, 1, none⟩ = some (.slice none 0 0) := blk_cell hY; have qF0 : w1.frozen? ⟨wD.heap.size, 0, none⟩ = false := blk_free hY; have hY1 := heap_setCell_same w1 wD.heap.size 0 _ _ (.int .i64 (D + 1 + X)) hY; have qY2 : (w1.setCell ⟨wD.heap.size, 0, none⟩ (.int .i64 (D + 1 + X))).cell? ⟨wD.heap.size, 1, none⟩ = some (.slice none 0 0) := blk_cell hY1; have qF1 : (w1.setCell ⟨wD.heap.size, 0, none⟩ (.int .i64 (D + 1 + X))).frozen? ⟨wD.heap.size, 1, none⟩ = false := blk_free hY1)
      refine Shut.out hK _ _ ?_ (fun hS => ?_)
      · exact ⟨hg1.cell hS.1 (by simpa using htr), hg1.cell hS.2 (by simpa using htr)⟩
      clear hK K
      refine wpAnyH_take (i := 15) (v := ?_) rfl (by kernel_rfl) (by kernel_rfl) (by kernel_rfl) (fun _ _ _ h => h) (Or.inl ⟨by rfl, ?_⟩) hS ?_; rotate_left; (intro w hS; obtain ⟨k1, k4⟩ := hS; go_simp); (try with_reducible rfl)
      simp only [Act.put, List.getElem_toArray, List.getElem_cons_succ, List.getElem_cons_zero, List.setIfInBounds_toArray, List.set_cons_zero, List.set_cons_succ]
      refine wpAnyH_take (i := 16) (v := ?_) rfl (by kernel_rfl) (by kernel_rfl) (by kernel_rfl) (fun _ _ _ h => h) (Or.inl ⟨by rfl, ?_⟩) hS ?_; rotate_left; (intro w hS; obtain ⟨k1, k4⟩ := hS; go_simp); (try with_reducible rfl)
      simp only [Act.put, List.getElem_toArray, List.getElem_cons_succ, List.getElem_cons_zero, List.setIfInBounds_toArray, List.set_cons_zero, List.set_cons_succ]
      refine wpAnyH_ready (rs := [17]) (by kernel_rfl) (by simp) ?_
      refine AllReadyH.cons rfl (fun K hK => ?_) AllReadyH.nil
      go_simp
      refine Shut.out hK _ _ ?_ (fun hS => ?_)
      · exact ⟨cell_alloc hS.1, cell_alloc hS.2⟩
      clear hK K
      refine wpAnyH_ready (rs := [18]) (by kernel_rfl) (by simp) ?_
      refine AllReadyH.cons rfl (fun K hK => ?_) AllReadyH.nil
      go_simp
      refine Shut.out hK _ _ ?_ (fun hS => ?_)
      · first | exact ⟨(World.cell?_setCell_far _ _ _ _ hYt).trans ((World.cell?_setCell_far _ _ _ _ hYt).trans hS.1), (World.cell?_setCell_far _ _ _ _ hYt).trans ((World.cell?_setCell_far _ _ _ _ hYt).trans hS.2)⟩ | exact ⟨cell_alloc (hg1.cell k1D (by simpa using htr)), cell_alloc (hg1.cell k4D (by simpa using htr))⟩
      clear hK K
      refine wpAnyH_done (by kernel_rfl) ?_ _
      go_wp2_with fail
      go_meet
      first
        | exact ⟨rfl, rfl, rfl, w1.heap.size, rfl, HF.out _ _ (Only.past hg1 (Only.of_below ((Below.refl w1.heap.size w1).alloc (Nat.le_refl _) _) []) (by simp)) (heap_alloc_new w1 _) hg1.size (hr1.below ((Below.refl w1.heap.size w1).alloc (Nat.le_refl _) _))⟩
        | exact ⟨rfl, rfl, rfl, wD.heap.size, rfl, HF.out _ _ (Only.past ((Only.of_below ((Below.refl wD.heap.size wD).alloc (Nat.le_refl _) _) [r]).trans (Only.of_grown hg1)).grown ((Only.of_grown (Lib.grownBy_setCell w1 wD.heap.size 0 _)).trans (Only.of_grown (Lib.grownBy_setCell _ wD.heap.size 1 _))) (by intro i h1 h2; simp at h1; omega)) (by rw [heap_setCell_same _ _ 1 _ _ _ hY1]; rfl) (Nat.le_refl _) ((hr1.apart ⟨_, _, _, hY, by simp⟩ (by omega) (Lib.grownBy_setCell w1 wD.heap.size 0 _)).apart ⟨_, _, _, hY1, by simp⟩ (by omega) (Lib.grownBy_setCell _ wD.heap.size 1 _))⟩
    · go_simp
      refine Shut.out hK _ _ ?_ (fun hS => ?_)
      · exact ⟨cell_alloc hS.1, cell_alloc hS.2⟩
      clear hK K
      refine wpAnyH_ready (rs := [14]) (by kernel_rfl) (by simp) ?_
      refine AllReadyH.cons rfl (fun K hK => ?_) AllReadyH.nil
      go_simp
      go_at_call 34
      refine (HN.out _ (by first | exact hrD | exact hrB)).mono ?_
      rintro e1 w1 ⟨rfl, hr1, hg1⟩
      try (have hY := (hg1.block wD.heap.size (by simp) (by intro e; injection e with e; omega)).trans (heap_alloc_new wD (.cells #[.int .i64 0, .slice none 0 0] 40)); have qY0 : w1.cell? ⟨wD.heap.size, 0, none⟩ = some (.int .i64 0) := blk_cell hY; have qY1 : w1.cell? ⟨wD.heap.size, 1, none⟩ = some (.slice none 0 0) := blk_cell hY; have qF0 : w1.frozen? ⟨wD.heap.size, 0, none⟩ = false := blk_free hY; have hY1 := heap_setCell_same w1 wD.heap.size 0 _ _ (.int .i64 (D + 1 + X)) hY; have qY2 : (w1.setCell ⟨wD.heap.size, 0, none⟩ (.int .i64 (D + 1 + X))).cell? ⟨wD.heap.size, 1, none⟩ = some (.slice none 0 0) := blk_cell hY1; have qF1 : (w1.setCell ⟨wD.heap.size, 0, none⟩ (.int .i64 (D + 1 + X))).frozen? ⟨wD.heap.size, 1, none⟩ = false := blk_free hY1)
      refine Shut.out hK _ _ ?_ (fun hS => ?_)
      · exact ⟨hg1.cell hS.1 (by simpa using htr), hg1.cell hS.2 (by simpa using htr)⟩
      clear hK K
      refine wpAnyH_take (i := 15) (v := ?_) rfl (by kernel_rfl) (by kernel_rfl) (by kernel_rfl) (fun _ _ _ h => h) (Or.inl ⟨by rfl, ?_⟩) hS ?_; rotate_left; (intro w hS; obtain ⟨k1, k4⟩ := hS; go_simp); (try with_reducible rfl)
      simp only [Act.put, List.getElem_toArray, List.getElem_cons_succ, List.getElem_cons_zero, List.setIfInBounds_toArray, List.set_cons_zero, List.set_cons_succ]
      refine wpAnyH_take (i := 16) (v := ?_) rfl (by kernel_rfl) (by kernel_rfl) (by kernel_rfl) (fun _ _ _ h => h) (Or.inl ⟨by rfl, ?_⟩) hS ?_; rotate_left; (intro w hS; obtain ⟨k1, k4⟩ := hS; go_simp); (try with_reducible rfl)
      simp only [Act.put, List.getElem_toArray, List.getElem_cons_succ, List.getElem_cons_zero, List.setIfInBounds_toArray, List.set_cons_zero, List.set_cons_succ]
      refine wpAnyH_ready (rs := [18]) (by kernel_rfl) (by simp) ?_
      refine AllReadyH.cons rfl (fun K hK => ?_) AllReadyH.nil
      go_simp
      refine Shut.out hK _ _ ?_ (fun hS => ?_)
      · first | exact ⟨(World.cell?_setCell_far _ _ _ _ hYt).trans ((World.cell?_setCell_far _ _ _ _ hYt).trans hS.1), (World.cell?_setCell_far _ _ _ _ hYt).trans ((World.cell?_setCell_far _ _ _ _ hYt).trans hS.2)⟩ | exact ⟨cell_alloc (hg1.cell k1D (by simpa using htr)), cell_alloc (hg1.cell k4D (by simpa using htr))⟩
      clear hK K
      refine wpAnyH_done (by kernel_rfl) ?_ _
      go_wp2_with fail
      go_meet
      first
        | exact ⟨rfl, rfl, rfl, w1.heap.size, rfl, HF.out _ _ (Only.past hg1 (Only.of_below ((Below.refl w1.heap.size w1).alloc (Nat.le_refl _) _) []) (by simp)) (heap_alloc_new w1 _) hg1.size (hr1.below ((Below.refl w1.heap.size w1).alloc (Nat.le_refl _) _))⟩
        | exact ⟨rfl, rfl, rfl, wD.heap.size, rfl, HF.out _ _ (Only.past ((Only.of_below ((Below.refl wD.heap.size wD).alloc (Nat.le_refl _) _) [r]).trans (Only.of_grown hg1)).grown ((Only.of_grown (Lib.grownBy_setCell w1 wD.heap.size 0 _)).trans (Only.of_grown (Lib.grownBy_setCell _ wD.heap.size 1 _))) (by intro i h1 h2; simp at h1; omega)) (by rw [heap_setCell_same _ _ 1 _ _ _ hY1]; rfl) (Nat.le_refl _) ((hr1.apart ⟨_, _, _, hY, by simp⟩ (by omega) (Lib.grownBy_setCell w1 wD.heap.size 0 _)).apart ⟨_, _, _, hY1, by simp⟩ (by omega) (Lib.grownBy_setCell _ wD.heap.size 1 _))⟩
  case rest =>
    obtain ⟨rfl, rfl, rfl, Y, rfl, hbt, hbp, hbY, hYs, hrc, hoc⟩ := hcut
    rw [hbA] at hbt
    rw [hRA] at hbp
    obtain ⟨eD, eT, eL, eI⟩ := HEq.out
    have hit : ItAt wc t g r { it with run := (numS (65534 - D) it.run).2 } := ⟨by rw [hbt, ← eD, ← eT, ← eL, ← eI], HG.out.only (S := [t, r]) (by intro k hk; simp at hk; rcases hk with rfl | rfl; exact HNt.out; exact HNr.out) (by have := HTg.out; simp; exact ⟨Ne.symm this.1, this.2⟩) hoc, hrc, HTg.out.1, htr, HTg.out.2⟩
    have HS := Lib.hid (spots_any t g r _ wc hit (numS_len HOl.out))
    have htw := hlt
    have hwc : w.heap.size + 1 ≤ wA.heap.size := by have := blk_lt hRA; omega
    have hYc := blk_lt hbY
    have HIt := Lib.hid hit.lt
    generalize (numS (65534 - D) it.run).2 = o1 at HS HPS hrc
    generalize spotsS (numS 4 o1).1 (numS 4 o1).2 = SS at HS HPS
    obtain ⟨sp, o2⟩ := SS
    simp only at HS HPS
    have hdw1 : IntKind.i64.wrap (L - 1) = L - 1 := by go_arith
    have hdw2 : IntKind.i64.wrap (I - 1) = I - 1 := by go_arith
    clear hit hrc HG HN hw1 hw2 hw3 hrA hoA hbA hRA
    obtain ⟨Z, hZ⟩ : ∃ Z, D + 1 + X = Z := ⟨_, rfl⟩
    rw [hZ] at hbY HPS
    have HZ := Lib.hid hZ
    clear hZ
    go_upto_region 3 with (go_at_call 53; refine HS.out.mono ?_; rintro e1 w1 ⟨A, c, ls, rfl, hsp, hmap, hr1, hg1⟩
                           have hbY1 := (hg1.block Y hYc (by intro e; injection e with e; omega)).trans hbY
                           have qY0 : w1.cell? ⟨Y, 0, none⟩ = some (.int .i64 Z) := blk_cell hbY1
                           have qY1 : w1.cell? ⟨Y, 1, none⟩ = some (.slice none 0 0) := blk_cell hbY1
                           have qYf : w1.frozen? ⟨Y, 1, none⟩ = false := blk_free hbY1)
    have hYt : Y ≠ t := by omega
    have hbt1 := (hg1.block t (by have := HIt.out; omega) (by simpa using htr)).trans hbt
    have hgS1 := Lib.grownBy_setCell w1 Y 1 (.slice A ls.length c)
    have hbYS : (w1.setCell ⟨Y, 1, none⟩ (.slice A ls.length c)).heap[Y]? = some (.cells #[.int .i64 Z, .slice A ls.length c] 40 (0, 0)) := by rw [heap_setCell_same w1 Y 1 _ _ _ hbY1]; rfl
    have hbtS := (hgS1.block t (blk_lt hbt1) (by intro e; injection e with e; omega)).trans hbt1
    have hrS := hr1.apart ⟨_, _, _, hbY1, by simp⟩ (by have := HIt.out; omega) hgS1
    have hOS : Only wc (w1.setCell ⟨Y, 1, none⟩ (.slice A ls.length c)) [r, Y] := ((Only.of_grown hg1).mono (by simp)).trans ((Only.of_grown hgS1).mono (by simp))
    have hspS := hsp.only (Only.of_grown hgS1) (by intro i hi; cases List.mem_singleton.1 hi; exact hYc)
    have hbp1 := (hOS.block w.heap.size (blk_lt hbp) (by simp; omega)).trans hbp
    clear hgS1 hbt1 hbY1 qY0 qY1 qYf hr1 hg1 hbt hsp
    generalize w1.setCell ⟨Y, 1, none⟩ (.slice A ls.length c) = S at *
    have hg2 := Lib.grownBy_setCell S t 2 (.int .i64 (L - 1))
    have hb2 : (S.setCell ⟨t, 2, none⟩ (.int .i64 (L - 1))).heap[t]? = some (.cells #[.pointer (some ⟨g, 0, none⟩), .pointer (some ⟨r, 0, none⟩), .int .i64 (L - 1), .int .i64 I, .int .i64 D, .int .i64 T, .bool it.bad] 66 (0, 0)) := by rw [heap_setCell_same S t 2 _ _ _ hbtS]; rfl
    have hg3 := Lib.grownBy_setCell (S.setCell ⟨t, 2, none⟩ (.int .i64 (L - 1))) t 3 (.int .i64 (I - 1))
    have hb3 : ((S.setCell ⟨t, 2, none⟩ (.int .i64 (L - 1))).setCell ⟨t, 3, none⟩ (.int .i64 (I - 1))).heap[t]? = some (.cells #[.pointer (some ⟨g, 0, none⟩), .pointer (some ⟨r, 0, none⟩), .int .i64 (L - 1), .int .i64 (I - 1), .int .i64 D, .int .i64 T, .bool it.bad] 66 (0, 0)) := by rw [heap_setCell_same _ t 3 _ _ _ hb2]; rfl
    have hg4 := Lib.grownBy_setCell ((S.setCell ⟨t, 2, none⟩ (.int .i64 (L - 1))).setCell ⟨t, 3, none⟩ (.int .i64 (I - 1))) t 4 (.int .i64 Z)
    have hb4 : (((S.setCell ⟨t, 2, none⟩ (.int .i64 (L - 1))).setCell ⟨t, 3, none⟩ (.int .i64 (I - 1))).setCell ⟨t, 4, none⟩ (.int .i64 Z)).heap[t]? = some (.cells #[.pointer (some ⟨g, 0, none⟩), .pointer (some ⟨r, 0, none⟩), .int .i64 (L - 1), .int .i64 (I - 1), .int .i64 Z, .int .i64 T, .bool it.bad] 66 (0, 0)) := by rw [heap_setCell_same _ t 4 _ _ _ hb3]; rfl
    have q2 : S.cell? ⟨t, 2, none⟩ = some (.int .i64 L) := blk_cell hbtS
    have q2f : S.frozen? ⟨t, 2, none⟩ = false := blk_free hbtS
    have q3 : (S.setCell ⟨t, 2, none⟩ (.int .i64 (L - 1))).cell? ⟨t, 3, none⟩ = some (.int .i64 I) := blk_cell hb2
    have q3f : (S.setCell ⟨t, 2, none⟩ (.int .i64 (L - 1))).frozen? ⟨t, 3, none⟩ = false := blk_free hb2
    have q4 : ((S.setCell ⟨t, 2, none⟩ (.int .i64 (L - 1))).setCell ⟨t, 3, none⟩ (.int .i64 (I - 1))).cell? ⟨t, 4, none⟩ = some (.int .i64 D) := blk_cell hb3
    have q4f : ((S.setCell ⟨t, 2, none⟩ (.int .i64 (L - 1))).setCell ⟨t, 3, none⟩ (.int .i64 (I - 1))).frozen? ⟨t, 4, none⟩ = false := blk_free hb3
    have hO4 : Only S (((S.setCell ⟨t, 2, none⟩ (.int .i64 (L - 1))).setCell ⟨t, 3, none⟩ (.int .i64 (I - 1))).setCell ⟨t, 4, none⟩ (.int .i64 Z)) [t] := ((Only.of_grown hg2).trans (Only.of_grown hg3)).trans (Only.of_grown hg4)
    have hbY4 := (hO4.block Y (blk_lt hbYS) (by simpa using hYt)).trans hbYS
    have hbY3 := (((Only.of_grown hg2).trans (Only.of_grown hg3)).block Y (blk_lt hbYS) (by simpa using hYt)).trans hbYS
    have qY3 : ((S.setCell ⟨t, 2, none⟩ (.int .i64 (L - 1))).setCell ⟨t, 3, none⟩ (.int .i64 (I - 1))).cell? ⟨Y, 0, none⟩ = some (.int .i64 Z) := blk_cell hbY3
    have hM : Mid w t g r Y wc.heap.size (L - 1) (I - 1) Z T it.bad o2 A c ls (((S.setCell ⟨t, 2, none⟩ (.int .i64 (L - 1))).setCell ⟨t, 3, none⟩ (.int .i64 (I - 1))).setCell ⟨t, 4, none⟩ (.int .i64 Z)) :=
      ⟨hb4, hbY4, (hO4.block w.heap.size (blk_lt hbp1) (by simp; omega)).trans hbp1, ((hrS.apart (noBytes_it hbtS) (Ne.symm htr) hg2).apart (noBytes_it hb2) (Ne.symm htr) hg3).apart (noBytes_it hb3) (Ne.symm htr) hg4,
       hspS.only hO4 (by intro i hi; cases List.mem_singleton.1 hi; have := HIt.out; omega), (hoc.fresh hOS (by intro i hi hlt; simp at hi; rcases hi with rfl | rfl; simp; omega)).trans (hO4.mono (by simp))⟩
    have HM := Lib.hid hM
    clear hO4 hbY4 hbY3 hM hb4 hg4 hb3 hg3 hb2 hg2 hbtS hrS hOS hspS hbp1 hbp hoc hbYS hbY
    go_upto_region 6 with fail
    generalize (((S.setCell ⟨t, 2, none⟩ (.int .i64 (L - 1))).setCell ⟨t, 3, none⟩ (.int .i64 (I - 1))).setCell ⟨t, 4, none⟩ (.int .i64 Z)) = V at *
    clear q2 q2f q3 q3f q4 q4f qY3 HS hdw1 hdw2
    obtain ⟨base, hba⟩ : ∃ b, wc.heap.size = b := ⟨_, rfl⟩
    rw [hba] at HM hYc
    have hM := HM.out
    have hbw : w.heap.size < base := by omega
    clear hba hYs hwc
    have hOo : OLen o2 := by
      have := postS_len (last := it.last) HOl.out
      rw [HPS.out] at this
      exact this
    go_cut [0, 2, 3, 4, 5] from 6 (fun s0 s2 s3 s4 s5 V' => s0 = .pointer (some ⟨t, 0, none⟩) ∧ s2 = .pointer (some ⟨w.heap.size, 0, none⟩) ∧ s3 = .bool false ∧ s4 = .pointer (some ⟨Y, 0, none⟩) ∧ s5 = .bool (decide (it.inn = 1) && (!overS o2 || (Z != T))) ∧ Mid w t g r Y base (L - 1) (I - 1) Z T it.bad o2 A c ls V')
    case first =>
      have k1 : V.cell? ⟨t, 1, none⟩ = some (.pointer (some ⟨r, 0, none⟩)) := blk_cell hM.bt
      have k3 : V.cell? ⟨t, 3, none⟩ = some (.int .i64 (I - 1)) := blk_cell hM.bt
      have k5 : V.cell? ⟨t, 5, none⟩ = some (.int .i64 T) := blk_cell hM.bt
      have kY : V.cell? ⟨Y, 0, none⟩ = some (.int .i64 Z) := blk_cell hM.bY
      by_cases hI1 : I = 1
      · have q1 : ((I - 1 : Int) == 0) = true := beq_iff_eq.mpr (by omega)
        have hin : it.inn = 1 := by omega
        have HIn := Lib.hid hin
        have HM2 := Lib.hid (fun n => hM.below (below_drewN (Below.refl _ _) n))
        obtain ⟨cE, hE0, hE1, hE⟩ := send_code r o2 V hM.rr
        have HE := Lib.hid hE
        clear hE
        cases hov : overS o2 with
        | true =>
          obtain rfl := hE0 hov
          clear hin hI1 hM HM hE0 hE1
          go_quiet (first | (go_at_call 40; exact (HE.out _).mono (fun _ _ ⟨he, hm⟩ => ⟨he, _, hm⟩)))
          go_wp2
          go_meet
          exact ⟨rfl, rfl, rfl, rfl, by rw [decide_eq_true HIn.out, hov]; rfl, HM2.out _⟩
        | false =>
          have q2 := hE1 hov
          have q3 : ((cE : Int) == 0) = false := beq_eq_false_iff_ne.mpr (by omega)
          have q4 : ((cE : Int) != 0) = true := by rw [bne, q3]; rfl
          clear hin hI1 hM HM hE0 hE1
          go_quiet (first | (go_at_call 40; exact (HE.out _).mono (fun _ _ ⟨he, hm⟩ => ⟨he, _, hm⟩)))
          go_wp2
          go_meet
          exact ⟨rfl, rfl, rfl, rfl, by rw [decide_eq_true HIn.out, hov]; rfl, HM2.out _⟩
      · have q1 : ((I - 1 : Int) == 0) = false := beq_eq_false_iff_ne.mpr (by omega)
        have hin : it.inn ≠ 1 := by omega
        have HIn := Lib.hid hin
        have HM2 := Lib.hid (fun n => hM.below (below_drewN (Below.refl _ _) n))
        clear hM HM hI1 hin
        go_quiet (fail)
        go_wp2
        go_meet
        exact ⟨rfl, rfl, rfl, rfl, by rw [decide_eq_false HIn.out, Bool.false_and], HM2.out _⟩
    case rest =>
      clear hM HM
      obtain ⟨rfl, rfl, rfl, rfl, rfl, hM⟩ := hcut
      clear V
      have HFa : Hid (it.fails = (!o2.isSome || (decide (it.inn = 1) && (!overS o2 || (Z != T))) || !fitsB ⟨Z, sp⟩ || decide (Z > T))) := by
        show _ = _
        unfold It.fails
        rw [HPS.out, eT]
        congr 5
        show decide (Z ≠ T) = (Z != T)
        by_cases hz : Z = T <;> simp [hz]
      generalize (decide (it.inn = 1) && (!overS o2 || (Z != T))) = ov at HFa ⊢
      have hpI : LPost.In ⟨Z, A, c, ls⟩ wc := ⟨hM.sp.li, hM.sp.c, by have := hM.sp.m; show ls.length ≤ _; omega, hM.sp.s, by have := HZ.out; show I64 Z; unfold I64; omega⟩
      have hpp : LPost.p ⟨Z, A, c, ls⟩ = ⟨Z, sp⟩ := by rw [← hmap]; rfl
      go_upto_region 7 with fail
      go_cut [0, 2, 3, 4, 89] from 5 (fun s0 s2 s3 s4 s89 V' => s0 = .pointer (some ⟨t, 0, none⟩) ∧ s2 = .pointer (some ⟨w.heap.size, 0, none⟩) ∧ s3 = .bool false ∧ s4 = .pointer (some ⟨Y, 0, none⟩) ∧ s89 = .bool it.fails ∧ Mid w t g r Y base (L - 1) (I - 1) Z T it.bad o2 A c ls V')
      case first =>
        have k1 : wc.cell? ⟨t, 1, none⟩ = some (.pointer (some ⟨r, 0, none⟩)) := blk_cell hM.bt
        have k5 : wc.cell? ⟨t, 5, none⟩ = some (.int .i64 T) := blk_cell hM.bt
        have kY : wc.cell? ⟨Y, 0, none⟩ = some (.int .i64 Z) := blk_cell hM.bY
        have kY1 : wc.cell? ⟨Y, 1, none⟩ = some (.slice A ls.length c) := blk_cell hM.bY
        obtain ⟨cE, hE0, hE1, hE⟩ := serr_code r o2 wc hM.rr
        have HM2 := Lib.hid (fun V' hb => hM.below (V' := V') hb)
        have HE := Lib.hid hE
        have HFi := Lib.hid (fun V' (hb : Below wc.heap.size wc V') => fits_any _ V' (hpI.below hb))
        clear hE hM hpI
        cases hov : o2.isSome with
        | false =>
          have q2 := hE1 hov
          have q3 : ((cE : Int) == 0) = false := beq_eq_false_iff_ne.mpr (by omega)
          have q4 : ((cE : Int) != 0) = true := by rw [bne, q3]; rfl
          rw [hov] at HFa
          clear hE0 hE1 hov
          go_quiet (first | (go_at_call 39; exact (HE.out _ (below_drewN (Below.refl _ _) _)).mono (fun _ _ ⟨he, hm⟩ => ⟨he, _, hm⟩)))
          go_wp2
          go_meet
          exact ⟨rfl, rfl, rfl, rfl, by rw [HFa.out]; rfl, HM2.out _ (below_drewN (Below.refl _ _) _)⟩
        | true =>
          obtain rfl := hE0 hov
          rw [hov] at HFa
          clear hE0 hE1 hov
          cases ov with
          | true =>
            go_quiet (first | (go_at_call 39; exact (HE.out _ (below_drewN (Below.refl _ _) _)).mono (fun _ _ ⟨he, hm⟩ => ⟨he, _, hm⟩)))
            go_wp2
            go_meet
            exact ⟨rfl, rfl, rfl, rfl, by rw [HFa.out]; rfl, HM2.out _ (below_drewN (Below.refl _ _) _)⟩
          | false =>
            rw [hpp] at HFi
            cases hfi : fitsB ⟨Z, sp⟩ with
            | false =>
              rw [hfi] at HFa HFi
              clear hfi hpp hmap
              have k1 : wc.drew.cell? ⟨t, 1, none⟩ = _ := k1
              have kY : wc.drew.cell? ⟨Y, 0, none⟩ = _ := kY
              have kY1 : wc.drew.cell? ⟨Y, 1, none⟩ = _ := kY1
              have HM2 : Hid (∀ V', Below wc.drew.heap.size wc.drew V' → Mid w t g r Y base (L - 1) (I - 1) Z T it.bad o2 A c ls V') := fun V' hb => HM2.out V' ((Below.refl _ _).drew.trans hb)
              have HE : Hid (∀ V', Below wc.drew.heap.size wc.drew V' → Calls Try.prog 39 #[.pointer (some ⟨r, 0, none⟩)] V' fun e w'' => e = .returned (.int .i64 ((0 : Nat) : Int)) ∧ w'' = V') := fun V' hb => HE.out V' ((Below.refl _ _).drew.trans hb)
              have HFi := Lib.hid (fun V' (hb : Below wc.drew.heap.size wc.drew V') => HFi.out V' ((Below.refl _ _).drew.trans hb))
              refine wp_region_any (by kernel_rfl) ?_
              change wpAny _ _ _ _ _ _ _ (World.drew _)
              generalize World.drew wc = wc at *
              refine wpAny_take (i := 0) (v := ?_) rfl (by kernel_rfl) (by kernel_rfl) (by kernel_rfl) (fun _ _ _ h => h) (Or.inl ⟨by rfl, ?_⟩) ?_; rotate_left; (intro w; go_simp); (try with_reducible rfl)
              simp only [Act.put, List.getElem_toArray, List.getElem_cons_succ, List.getElem_cons_zero, List.setIfInBounds_toArray, List.set_cons_zero, List.set_cons_succ]
              refine wpAny_take (i := 1) (v := ?_) rfl (by kernel_rfl) (by kernel_rfl) (by kernel_rfl) (fun _ _ _ h => h) (Or.inl ⟨by rfl, ?_⟩) ?_; rotate_left; (intro w; go_simp); (try with_reducible rfl)
              simp only [Act.put, List.getElem_toArray, List.getElem_cons_succ, List.getElem_cons_zero, List.setIfInBounds_toArray, List.set_cons_zero, List.set_cons_succ]
              refine wpAny_take (i := 2) (v := ?_) rfl (by kernel_rfl) (by kernel_rfl) (by kernel_rfl) (fun _ _ _ h => h) (Or.inl ⟨by rfl, ?_⟩) ?_; rotate_left; (intro w; go_simp); (try with_reducible rfl)
              simp only [Act.put, List.getElem_toArray, List.getElem_cons_succ, List.getElem_cons_zero, List.setIfInBounds_toArray, List.set_cons_zero, List.set_cons_succ]
              refine wpAny_ready (rs := [3]) (by kernel_rfl) (by simp) ?_
              refine AllReady.cons rfl (fun K hK => ?_) AllReady.nil
              go_simp
              refine hK _ _ ?_
              clear hK K
              refine wpAny_ready (rs := [4]) (by kernel_rfl) (by simp) ?_
              refine AllReady.cons rfl (fun K hK => ?_) AllReady.nil
              go_simp
              go_at_call 39
              refine (HE.out _ (Below.refl _ _)).mono ?_
              rintro e1 w1 ⟨rfl, rfl⟩
              try go_simp
              refine hK _ _ ?_
              clear hK K
              refine wpAny_take (i := 5) (v := ?_) rfl (by kernel_rfl) (by kernel_rfl) (by kernel_rfl) (fun _ _ _ h => h) (Or.inl ⟨by rfl, ?_⟩) ?_; rotate_left; (intro w; go_simp); (try with_reducible rfl)
              simp only [Act.put, List.getElem_toArray, List.getElem_cons_succ, List.getElem_cons_zero, List.setIfInBounds_toArray, List.set_cons_zero, List.set_cons_succ]
              refine wpAny_take (i := 6) (v := ?_) rfl (by kernel_rfl) (by kernel_rfl) (by kernel_rfl) (fun _ _ _ h => h) (Or.inl ⟨by rfl, ?_⟩) ?_; rotate_left; (intro w; go_simp); (try with_reducible rfl)
              simp only [Act.put, List.getElem_toArray, List.getElem_cons_succ, List.getElem_cons_zero, List.setIfInBounds_toArray, List.set_cons_zero, List.set_cons_succ]
              refine wpAny_take (i := 7) (v := ?_) rfl (by kernel_rfl) (by kernel_rfl) (by kernel_rfl) (fun _ _ _ h => h) (Or.inl ⟨by rfl, ?_⟩) ?_; rotate_left; (intro w; go_simp); (try with_reducible rfl)
              simp only [Act.put, List.getElem_toArray, List.getElem_cons_succ, List.getElem_cons_zero, List.setIfInBounds_toArray, List.set_cons_zero, List.set_cons_succ]
              refine wpAny_take (i := 8) (v := ?_) rfl (by kernel_rfl) (by kernel_rfl) (by kernel_rfl) (fun _ _ _ h => h) (Or.inl ⟨by rfl, ?_⟩) ?_; rotate_left; (intro w; go_simp); (try with_reducible rfl)
              simp only [Act.put, List.getElem_toArray, List.getElem_cons_succ, List.getElem_cons_zero, List.setIfInBounds_toArray, List.set_cons_zero, List.set_cons_succ]
              refine wpAny_take (i := 9) (v := ?_) rfl (by kernel_rfl) (by kernel_rfl) (by kernel_rfl) (fun _ _ _ h => h) (Or.inl ⟨by rfl, ?_⟩) ?_; rotate_left; (intro w; go_simp); (try with_reducible rfl)
              simp only [Act.put, List.getElem_toArray, List.getElem_cons_succ, List.getElem_cons_zero, List.setIfInBounds_toArray, List.set_cons_zero, List.set_cons_succ]
              refine wpAny_ready (rs := [10]) (by kernel_rfl) (by simp) ?_
              refine AllReady.cons rfl (fun K hK => ?_) AllReady.nil
              go_simp
              refine hK _ _ ?_
              clear hK K
              refine wpAny_ready (rs := [11]) (by kernel_rfl) (by simp) ?_
              refine AllReady.cons rfl (fun K hK => ?_) AllReady.nil
              go_simp
              go_at_call 31
              refine (HFi.out _ (Below.refl _ _)).mono ?_
              rintro e2 w2 ⟨rfl, hb2⟩
              try go_simp
              refine hK _ _ ?_
              clear hK K
              refine wpAny_take (i := 12) (v := ?_) rfl (by kernel_rfl) (by kernel_rfl) (by kernel_rfl) (fun _ _ _ h => h) (Or.inl ⟨by rfl, ?_⟩) ?_; rotate_left; (intro w; go_simp); (try with_reducible rfl)
              simp only [Act.put, List.getElem_toArray, List.getElem_cons_succ, List.getElem_cons_zero, List.setIfInBounds_toArray, List.set_cons_zero, List.set_cons_succ]
              refine wpAny_take (i := 13) (v := ?_) rfl (by kernel_rfl) (by kernel_rfl) (by kernel_rfl) (fun _ _ _ h => h) (Or.inl ⟨by rfl, ?_⟩) ?_; rotate_left; (intro w; go_simp); (try with_reducible rfl)
              simp only [Act.put, List.getElem_toArray, List.getElem_cons_succ, List.getElem_cons_zero, List.setIfInBounds_toArray, List.set_cons_zero, List.set_cons_succ]
              refine wpAny_take (i := 14) (v := ?_) rfl (by kernel_rfl) (by kernel_rfl) (by kernel_rfl) (fun _ _ _ h => h) (Or.inl ⟨by rfl, ?_⟩) ?_; rotate_left; (intro w; go_simp); (try with_reducible rfl)
              simp only [Act.put, List.getElem_toArray, List.getElem_cons_succ, List.getElem_cons_zero, List.setIfInBounds_toArray, List.set_cons_zero, List.set_cons_succ]
              refine wpAny_take (i := 15) (v := undef) rfl (by kernel_rfl) (by kernel_rfl) (by kernel_rfl) (fun _ _ _ h => h) (Or.inr ⟨by rfl, rfl⟩) ?_
              simp only [Act.put, List.getElem_toArray, List.getElem_cons_succ, List.getElem_cons_zero, List.setIfInBounds_toArray, List.set_cons_zero, List.set_cons_succ]
              refine wpAny_take (i := 16) (v := undef) rfl (by kernel_rfl) (by kernel_rfl) (by kernel_rfl) (fun _ _ _ h => h) (Or.inr ⟨by rfl, rfl⟩) ?_
              simp only [Act.put, List.getElem_toArray, List.getElem_cons_succ, List.getElem_cons_zero, List.setIfInBounds_toArray, List.set_cons_zero, List.set_cons_succ]
              refine wpAny_take (i := 17) (v := undef) rfl (by kernel_rfl) (by kernel_rfl) (by kernel_rfl) (fun _ _ _ h => h) (Or.inr ⟨by rfl, rfl⟩) ?_
              simp only [Act.put, List.getElem_toArray, List.getElem_cons_succ, List.getElem_cons_zero, List.setIfInBounds_toArray, List.set_cons_zero, List.set_cons_succ]
              refine wpAny_take (i := 18) (v := undef) rfl (by kernel_rfl) (by kernel_rfl) (by kernel_rfl) (fun _ _ _ h => h) (Or.inr ⟨by rfl, rfl⟩) ?_
              simp only [Act.put, List.getElem_toArray, List.getElem_cons_succ, List.getElem_cons_zero, List.setIfInBounds_toArray, List.set_cons_zero, List.set_cons_succ]
              refine wpAny_take (i := 19) (v := undef) rfl (by kernel_rfl) (by kernel_rfl) (by kernel_rfl) (fun _ _ _ h => h) (Or.inr ⟨by rfl, rfl⟩) ?_
              simp only [Act.put, List.getElem_toArray, List.getElem_cons_succ, List.getElem_cons_zero, List.setIfInBounds_toArray, List.set_cons_zero, List.set_cons_succ]
              refine wpAny_take (i := 20) (v := undef) rfl (by kernel_rfl) (by kernel_rfl) (by kernel_rfl) (fun _ _ _ h => h) (Or.inr ⟨by rfl, rfl⟩) ?_
              simp only [Act.put, List.getElem_toArray, List.getElem_cons_succ, List.getElem_cons_zero, List.setIfInBounds_toArray, List.set_cons_zero, List.set_cons_succ]
              refine wpAny_take (i := 21) (v := undef) rfl (by kernel_rfl) (by kernel_rfl) (by kernel_rfl) (fun _ _ _ h => h) (Or.inr ⟨by rfl, rfl⟩) ?_
              simp only [Act.put, List.getElem_toArray, List.getElem_cons_succ, List.getElem_cons_zero, List.setIfInBounds_toArray, List.set_cons_zero, List.set_cons_succ]
              refine wpAny_take (i := 22) (v := ?_) rfl (by kernel_rfl) (by kernel_rfl) (by kernel_rfl) (fun _ _ _ h => h) (Or.inl ⟨by rfl, ?_⟩) ?_; rotate_left; (intro w; go_simp); (try with_reducible rfl)
              simp only [Act.put, List.getElem_toArray, List.getElem_cons_succ, List.getElem_cons_zero, List.setIfInBounds_toArray, List.set_cons_zero, List.set_cons_succ]
              refine wpAny_done (by kernel_rfl) ?_ _
              go_wp2_with fail
              go_meet
              exact ⟨rfl, rfl, rfl, rfl, by rw [HFa.out]; rfl, HM2.out _ hb2⟩
            | true =>
              rw [hfi] at HFa HFi
              clear hfi hpp hmap
              have k1 : wc.drew.cell? ⟨t, 1, none⟩ = _ := k1
              have kY : wc.drew.cell? ⟨Y, 0, none⟩ = _ := kY
              have kY1 : wc.drew.cell? ⟨Y, 1, none⟩ = _ := kY1
              have HM2 : Hid (∀ V', Below wc.drew.heap.size wc.drew V' → Mid w t g r Y base (L - 1) (I - 1) Z T it.bad o2 A c ls V') := fun V' hb => HM2.out V' ((Below.refl _ _).drew.trans hb)
              have HE : Hid (∀ V', Below wc.drew.heap.size wc.drew V' → Calls Try.prog 39 #[.pointer (some ⟨r, 0, none⟩)] V' fun e w'' => e = .returned (.int .i64 ((0 : Nat) : Int)) ∧ w'' = V') := fun V' hb => HE.out V' ((Below.refl _ _).drew.trans hb)
              have HFi := Lib.hid (fun V' (hb : Below wc.drew.heap.size wc.drew V') => HFi.out V' ((Below.refl _ _).drew.trans hb))
              refine wp_region_any (by kernel_rfl) ?_
              change wpAny _ _ _ _ _ _ _ (World.drew _)
              generalize World.drew wc = wc at *
              refine wpAny_take (i := 0) (v := ?_) rfl (by kernel_rfl) (by kernel_rfl) (by kernel_rfl) (fun _ _ _ h => h) (Or.inl ⟨by rfl, ?_⟩) ?_; rotate_left; (intro w; go_simp); (try with_reducible rfl)
              simp only [Act.put, List.getElem_toArray, List.getElem_cons_succ, List.getElem_cons_zero, List.setIfInBounds_toArray, List.set_cons_zero, List.set_cons_succ]
              refine wpAny_take (i := 1) (v := ?_) rfl (by kernel_rfl) (by kernel_rfl) (by kernel_rfl) (fun _ _ _ h => h) (Or.inl ⟨by rfl, ?_⟩) ?_; rotate_left; (intro w; go_simp); (try with_reducible rfl)
              simp only [Act.put, List.getElem_toArray, List.getElem_cons_succ, List.getElem_cons_zero, List.setIfInBounds_toArray, List.set_cons_zero, List.set_cons_succ]
              refine wpAny_take (i := 2) (v := ?_) rfl (by kernel_rfl) (by kernel_rfl) (by kernel_rfl) (fun _ _ _ h => h) (Or.inl ⟨by rfl, ?_⟩) ?_; rotate_left; (intro w; go_simp); (try with_reducible rfl)
              simp only [Act.put, List.getElem_toArray, List.getElem_cons_succ, List.getElem_cons_zero, List.setIfInBounds_toArray, List.set_cons_zero, List.set_cons_succ]
              refine wpAny_ready (rs := [3]) (by kernel_rfl) (by simp) ?_
              refine AllReady.cons rfl (fun K hK => ?_) AllReady.nil
              go_simp
              refine hK _ _ ?_
              clear hK K
              refine wpAny_ready (rs := [4]) (by kernel_rfl) (by simp) ?_
              refine AllReady.cons rfl (fun K hK => ?_) AllReady.nil
              go_simp
              go_at_call 39
              refine (HE.out _ (Below.refl _ _)).mono ?_
              rintro e1 w1 ⟨rfl, rfl⟩
              try go_simp
              refine hK _ _ ?_
              clear hK K
              refine wpAny_take (i := 5) (v := ?_) rfl (by kernel_rfl) (by kernel_rfl) (by kernel_rfl) (fun _ _ _ h => h) (Or.inl ⟨by rfl, ?_⟩) ?_; rotate_left; (intro w; go_simp); (try with_reducible rfl)
              simp only [Act.put, List.getElem_toArray, List.getElem_cons_succ, List.getElem_cons_zero, List.setIfInBounds_toArray, List.set_cons_zero, List.set_cons_succ]
              refine wpAny_take (i := 6) (v := ?_) rfl (by kernel_rfl) (by kernel_rfl) (by kernel_rfl) (fun _ _ _ h => h) (Or.inl ⟨by rfl, ?_⟩) ?_; rotate_left; (intro w; go_simp); (try with_reducible rfl)
              simp only [Act.put, List.getElem_toArray, List.getElem_cons_succ, List.getElem_cons_zero, List.setIfInBounds_toArray, List.set_cons_zero, List.set_cons_succ]
              refine wpAny_take (i := 7) (v := ?_) rfl (by kernel_rfl) (by kernel_rfl) (by kernel_rfl) (fun _ _ _ h => h) (Or.inl ⟨by rfl, ?_⟩) ?_; rotate_left; (intro w; go_simp); (try with_reducible rfl)
              simp only [Act.put, List.getElem_toArray, List.getElem_cons_succ, List.getElem_cons_zero, List.setIfInBounds_toArray, List.set_cons_zero, List.set_cons_succ]
              refine wpAny_take (i := 8) (v := ?_) rfl (by kernel_rfl) (by kernel_rfl) (by kernel_rfl) (fun _ _ _ h => h) (Or.inl ⟨by rfl, ?_⟩) ?_; rotate_left; (intro w; go_simp); (try with_reducible rfl)
              simp only [Act.put, List.getElem_toArray, List.getElem_cons_succ, List.getElem_cons_zero, List.setIfInBounds_toArray, List.set_cons_zero, List.set_cons_succ]
              refine wpAny_take (i := 9) (v := ?_) rfl (by kernel_rfl) (by kernel_rfl) (by kernel_rfl) (fun _ _ _ h => h) (Or.inl ⟨by rfl, ?_⟩) ?_; rotate_left; (intro w; go_simp); (try with_reducible rfl)
              simp only [Act.put, List.getElem_toArray, List.getElem_cons_succ, List.getElem_cons_zero, List.setIfInBounds_toArray, List.set_cons_zero, List.set_cons_succ]
              refine wpAny_ready (rs := [10]) (by kernel_rfl) (by simp) ?_
              refine AllReady.cons rfl (fun K hK => ?_) AllReady.nil
              go_simp
              refine hK _ _ ?_
              clear hK K
              refine wpAny_ready (rs := [11]) (by kernel_rfl) (by simp) ?_
              refine AllReady.cons rfl (fun K hK => ?_) AllReady.nil
              go_simp
              go_at_call 31
              refine (HFi.out _ (Below.refl _ _)).mono ?_
              rintro e2 w2 ⟨rfl, hb2⟩
              have k52 : w2.cell? ⟨t, 5, none⟩ = some (.int .i64 T) := blk_cell (HM2.out _ hb2).bt
              have kY2 : w2.cell? ⟨Y, 0, none⟩ = some (.int .i64 Z) := blk_cell (HM2.out _ hb2).bY
              try go_simp
              refine hK _ _ ?_
              clear hK K
              refine wpAny_take (i := 12) (v := ?_) rfl (by kernel_rfl) (by kernel_rfl) (by kernel_rfl) (fun _ _ _ h => h) (Or.inl ⟨by rfl, ?_⟩) ?_; rotate_left; (intro w; go_simp); (try with_reducible rfl)
              simp only [Act.put, List.getElem_toArray, List.getElem_cons_succ, List.getElem_cons_zero, List.setIfInBounds_toArray, List.set_cons_zero, List.set_cons_succ]
              refine wpAny_take (i := 13) (v := ?_) rfl (by kernel_rfl) (by kernel_rfl) (by kernel_rfl) (fun _ _ _ h => h) (Or.inl ⟨by rfl, ?_⟩) ?_; rotate_left; (intro w; go_simp); (try with_reducible rfl)
              simp only [Act.put, List.getElem_toArray, List.getElem_cons_succ, List.getElem_cons_zero, List.setIfInBounds_toArray, List.set_cons_zero, List.set_cons_succ]
              refine wpAny_take (i := 14) (v := ?_) rfl (by kernel_rfl) (by kernel_rfl) (by kernel_rfl) (fun _ _ _ h => h) (Or.inl ⟨by rfl, ?_⟩) ?_; rotate_left; (intro w; go_simp); (try with_reducible rfl)
              simp only [Act.put, List.getElem_toArray, List.getElem_cons_succ, List.getElem_cons_zero, List.setIfInBounds_toArray, List.set_cons_zero, List.set_cons_succ]
              refine wpAny_take (i := 15) (v := ?_) rfl (by kernel_rfl) (by kernel_rfl) (by kernel_rfl) (fun _ _ _ h => h) (Or.inl ⟨by rfl, ?_⟩) ?_; rotate_left; (intro w; go_simp); (try with_reducible rfl)
              simp only [Act.put, List.getElem_toArray, List.getElem_cons_succ, List.getElem_cons_zero, List.setIfInBounds_toArray, List.set_cons_zero, List.set_cons_succ]
              refine wpAny_take (i := 17) (v := ?_) rfl (by kernel_rfl) (by kernel_rfl) (by kernel_rfl) (fun _ _ _ h => h) (Or.inl ⟨by rfl, ?_⟩) ?_; rotate_left; (intro w; go_simp); (try with_reducible rfl)
              simp only [Act.put, List.getElem_toArray, List.getElem_cons_succ, List.getElem_cons_zero, List.setIfInBounds_toArray, List.set_cons_zero, List.set_cons_succ]
              refine wpAny_take (i := 18) (v := ?_) rfl (by kernel_rfl) (by kernel_rfl) (by kernel_rfl) (fun _ _ _ h => h) (Or.inl ⟨by rfl, ?_⟩) ?_; rotate_left; (intro w; go_simp); (try with_reducible rfl)
              simp only [Act.put, List.getElem_toArray, List.getElem_cons_succ, List.getElem_cons_zero, List.setIfInBounds_toArray, List.set_cons_zero, List.set_cons_succ]
              refine wpAny_take (i := 19) (v := ?_) rfl (by kernel_rfl) (by kernel_rfl) (by kernel_rfl) (fun _ _ _ h => h) (Or.inl ⟨by rfl, ?_⟩) ?_; rotate_left; (intro w; go_simp); (try with_reducible rfl)
              simp only [Act.put, List.getElem_toArray, List.getElem_cons_succ, List.getElem_cons_zero, List.setIfInBounds_toArray, List.set_cons_zero, List.set_cons_succ]
              refine wpAny_ready (rs := [16, 20]) (by kernel_rfl) (by simp) ?_
              refine AllReady.cons rfl (fun K hK => ?_) (AllReady.cons rfl (fun K hK => ?_) AllReady.nil)
              · go_simp
                refine hK _ _ ?_
                clear hK K
                refine wpAny_ready (rs := [20]) (by kernel_rfl) (by simp) ?_
                refine AllReady.cons rfl (fun K hK => ?_) AllReady.nil
                go_simp
                refine hK _ _ ?_
                clear hK K
                refine wpAny_take (i := 21) (v := ?_) rfl (by kernel_rfl) (by kernel_rfl) (by kernel_rfl) (fun _ _ _ h => h) (Or.inl ⟨by rfl, ?_⟩) ?_; rotate_left; (intro w; go_simp); (try with_reducible rfl)
                simp only [Act.put, List.getElem_toArray, List.getElem_cons_succ, List.getElem_cons_zero, List.setIfInBounds_toArray, List.set_cons_zero, List.set_cons_succ]
                refine wpAny_take (i := 22) (v := ?_) rfl (by kernel_rfl) (by kernel_rfl) (by kernel_rfl) (fun _ _ _ h => h) (Or.inl ⟨by rfl, ?_⟩) ?_; rotate_left; (intro w; go_simp); (try with_reducible rfl)
                simp only [Act.put, List.getElem_toArray, List.getElem_cons_succ, List.getElem_cons_zero, List.setIfInBounds_toArray, List.set_cons_zero, List.set_cons_succ]
                refine wpAny_done (by kernel_rfl) ?_ _
                go_wp2_with fail
                go_meet
                exact ⟨rfl, rfl, rfl, rfl, by rw [HFa.out]; rfl, HM2.out _ hb2⟩
              · go_simp
                refine hK _ _ ?_
                clear hK K
                refine wpAny_ready (rs := [16]) (by kernel_rfl) (by simp) ?_
                refine AllReady.cons rfl (fun K hK => ?_) AllReady.nil
                go_simp
                refine hK _ _ ?_
                clear hK K
                refine wpAny_take (i := 21) (v := ?_) rfl (by kernel_rfl) (by kernel_rfl) (by kernel_rfl) (fun _ _ _ h => h) (Or.inl ⟨by rfl, ?_⟩) ?_; rotate_left; (intro w; go_simp); (try with_reducible rfl)
                simp only [Act.put, List.getElem_toArray, List.getElem_cons_succ, List.getElem_cons_zero, List.setIfInBounds_toArray, List.set_cons_zero, List.set_cons_succ]
                refine wpAny_take (i := 22) (v := ?_) rfl (by kernel_rfl) (by kernel_rfl) (by kernel_rfl) (fun _ _ _ h => h) (Or.inl ⟨by rfl, ?_⟩) ?_; rotate_left; (intro w; go_simp); (try with_reducible rfl)
                simp only [Act.put, List.getElem_toArray, List.getElem_cons_succ, List.getElem_cons_zero, List.setIfInBounds_toArray, List.set_cons_zero, List.set_cons_succ]
                refine wpAny_done (by kernel_rfl) ?_ _
                go_wp2_with fail
                go_meet
                exact ⟨rfl, rfl, rfl, rfl, by rw [HFa.out]; rfl, HM2.out _ hb2⟩
      case rest =>
        clear hM hpI
        obtain ⟨rfl, rfl, rfl, rfl, rfl, hM⟩ := hcut
        have hAf : it.after = { it with run := o2, left := it.left - 1, inn := it.inn - 1, last := Z, bad := it.bad || it.fails } := by unfold It.after; rw [HPS.out]
        have HAf := Lib.hid hAf
        have HGi := Lib.hid (fun (V : World) (ho : Only w V [t, r]) => HGk.out.only (S := [t, r]) (by intro k hk; simp at hk; rcases hk with rfl | rfl; exact HNt.out; exact HNr.out) (by have := HTg.out; simp; exact ⟨Ne.symm this.1, this.2⟩) ho)
        have HLI := Lib.hid (show (L - 1 = ((it.left - 1 : Nat) : Int)) ∧ (I - 1 = ((it.inn - 1 : Nat) : Int)) by omega)
        clear hAf hmap
        have kp0 : wc.cell? ⟨w.heap.size, 0, none⟩ = some (.int .i64 0) := blk_cell hM.bp
        have kp1 : wc.cell? ⟨w.heap.size, 1, none⟩ = some (.slice none 0 0) := blk_cell hM.bp
        have kY : wc.cell? ⟨Y, 0, none⟩ = some (.int .i64 Z) := blk_cell hM.bY
        have kY1 : wc.cell? ⟨Y, 1, none⟩ = some (.slice A ls.length c) := blk_cell hM.bY
        have fp : ∀ k, wc.frozen? ⟨w.heap.size, k, none⟩ = false := fun k => blk_free hM.bp
        have k6 : wc.cell? ⟨t, 6, none⟩ = some (.bool it.bad) := blk_cell hM.bt
        have f6 : wc.frozen? ⟨t, 6, none⟩ = false := blk_free hM.bt
        have HM := Lib.hid hM
        have HPP := Lib.hid hpp
        clear hM HFa hpp hYt
        cases hf : it.fails with
        | true =>
          have HF := Lib.hid hf
          rw [hf] at HAf
          clear hf
          have q0 : (wc.setCell ⟨t, 6, none⟩ (.bool true)).cell? ⟨w.heap.size, 0, none⟩ = some (.int .i64 0) := (World.cell?_setCell_far _ _ _ _ (by show t ≠ w.heap.size; omega)).trans kp0
          have q1 : (wc.setCell ⟨t, 6, none⟩ (.bool true)).cell? ⟨w.heap.size, 1, none⟩ = some (.slice none 0 0) := (World.cell?_setCell_far _ _ _ _ (by show t ≠ w.heap.size; omega)).trans kp1
          go_wp2_with fail
          refine bodyPost_ret (results_row_tmp rfl _ _ w.heap.size 40 _ (0, 0) _ (.bool false) rfl rfl (heap_setCell_same _ _ 1 _ _ _ (heap_setCell_same _ _ 0 _ _ _ ((heap_setCell_other _ _ _ _ (by show w.heap.size ≠ t; omega)).trans HM.out.bp))) Try.underlying40 rfl (by kernel_rfl)) rfl ?_
          have hb6 := heap_setCell_same wc t 6 _ _ (.bool true) HM.out.bt
          have hp6 := (heap_setCell_other wc ⟨t, 6, none⟩ w.heap.size (.bool true) (by show w.heap.size ≠ t; omega)).trans HM.out.bp
          have hp7 := heap_setCell_same _ _ 0 _ _ (.int .i64 0) hp6
          have hOw : Only wc (((wc.setCell ⟨t, 6, none⟩ (.bool true)).setCell ⟨w.heap.size, 0, none⟩ (.int .i64 0)).setCell ⟨w.heap.size, 1, none⟩ (.slice none 0 0)) [t, w.heap.size] := (((Only.of_grown (Lib.grownBy_setCell wc t 6 _)).mono (by simp)).trans ((Only.of_grown (Lib.grownBy_setCell _ w.heap.size 0 _)).mono (by simp))).trans ((Only.of_grown (Lib.grownBy_setCell _ w.heap.size 1 _)).mono (by simp))
          have hO : Only w (((wc.setCell ⟨t, 6, none⟩ (.bool true)).setCell ⟨w.heap.size, 0, none⟩ (.int .i64 0)).setCell ⟨w.heap.size, 1, none⟩ (.slice none 0 0)) [t, r] := HM.out.o.fresh hOw (by intro i hi hlt; simp at hi; rcases hi with rfl | rfl; simp; omega)
          have hr := HM.out.rr.only (S := [t, w.heap.size]) (by intro k hk; simp at hk; rcases hk with rfl | rfl; exact noBytes_it HM.out.bt; exact ⟨_, _, _, HM.out.bp, by simp⟩) (by simp; omega) hOw
          have ht : (((wc.setCell ⟨t, 6, none⟩ (.bool true)).setCell ⟨w.heap.size, 0, none⟩ (.int .i64 0)).setCell ⟨w.heap.size, 1, none⟩ (.slice none 0 0)).heap[t]? = _ := (heap_setCell_other _ ⟨w.heap.size, 1, none⟩ t _ (by show t ≠ w.heap.size; omega)).trans ((heap_setCell_other _ ⟨w.heap.size, 0, none⟩ t _ (by show t ≠ w.heap.size; omega)).trans hb6)
          refine ⟨?_, hO, fun _ => rfl, fun h => by rw [HF.out] at h; cases h⟩
          rw [HAf.out]
          refine ⟨?_, HGi.out _ hO, hr, HTg.out.1, htr, HTg.out.2⟩
          rw [ht, HLI.out.1, HLI.out.2, ← eT, Bool.or_true]
          rfl
        | false =>
          have HF := Lib.hid hf
          rw [hf] at HAf
          clear hf
          go_wp2_with fail
          have hp6 := heap_setCell_same wc _ 0 _ _ (.int .i64 Z) HM.out.bp
          refine bodyPost_ret (results_row_tmp rfl _ _ w.heap.size 40 _ (0, 0) _ (.bool true) rfl rfl (heap_setCell_same _ _ 1 _ _ _ hp6) Try.underlying40 rfl (by kernel_rfl)) rfl ?_
          have hOw : Only wc ((wc.setCell ⟨w.heap.size, 0, none⟩ (.int .i64 Z)).setCell ⟨w.heap.size, 1, none⟩ (.slice A ls.length c)) [w.heap.size] := ((Only.of_grown (Lib.grownBy_setCell wc w.heap.size 0 _)).mono (by simp)).trans ((Only.of_grown (Lib.grownBy_setCell _ w.heap.size 1 _)).mono (by simp))
          have hO : Only w ((wc.setCell ⟨w.heap.size, 0, none⟩ (.int .i64 Z)).setCell ⟨w.heap.size, 1, none⟩ (.slice A ls.length c)) [t, r] := HM.out.o.fresh hOw (by intro i hi hlt; simp at hi; omega)
          have hr := HM.out.rr.only (S := [w.heap.size]) (by intro k hk; simp at hk; subst hk; exact ⟨_, _, _, HM.out.bp, by simp⟩) (by simp; omega) hOw
          have ht : ((wc.setCell ⟨w.heap.size, 0, none⟩ (.int .i64 Z)).setCell ⟨w.heap.size, 1, none⟩ (.slice A ls.length c)).heap[t]? = _ := (heap_setCell_other _ ⟨w.heap.size, 1, none⟩ t _ (by show t ≠ w.heap.size; omega)).trans ((heap_setCell_other _ ⟨w.heap.size, 0, none⟩ t _ (by show t ≠ w.heap.size; omega)).trans HM.out.bt)
          have hsp := HM.out.sp.only hOw (by intro i hi; simp at hi; omega)
          refine ⟨?_, hO, (fun h => by rw [HF.out] at h; cases h), fun _ => ⟨⟨Z, A, c, ls⟩, rfl, ⟨hsp.li, hsp.c, by have := hsp.m; show ls.length ≤ _; omega, hsp.s, by have := HZ.out; show I64 Z; unfold I64; omega⟩, by rw [HPP.out, HPS.out], fun a ha => ⟨by have := hsp.a a ha; omega, (hsp.a a ha).2⟩, fun s hs a ha => ⟨by have := hsp.sa s hs a ha; omega, (hsp.sa s hs a ha).2⟩⟩⟩
          rw [HAf.out]
          refine ⟨?_, HGi.out _ hO, hr, HTg.out.1, htr, HTg.out.2⟩
          rw [ht, HLI.out.1, HLI.out.2, ← eT, Bool.or_false]
end Go.Proofs.Ytbeejmedekgjjaa
