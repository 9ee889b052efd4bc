/- JournalCrash: the walk. -/
import Derived.Test.YtjfpanamkkdebaaMxJpL
import Derived.Deep.DeepCutAuto
import Derived.Deep.CutBlock
import Derived.IntWalk
namespace Go.Proofs.Ytjfpanamkkdebaa
open Go.RowKit
set_option linter.unusedVariables false
set_option linter.unusedSimpArgs false
theorem mod_nat (n : Int) (M : Nat) (M' : Int) (hM' : M' = (M : Int)) (hM : 0 < M) : ∃ q : Nat, (IntKind.u64.wrap n).tmod M' = (q : Int) ∧ q < M := by
  have h0 : 0 ≤ IntKind.u64.wrap n := by unfold IntKind.wrap; simp [IntKind.bits, IntKind.signed]; omega
  subst hM'
  have h1 := Int.emod_nonneg (IntKind.u64.wrap n) (b := (M : Int)) (by omega)
  have h2 := Int.emod_lt_of_pos (IntKind.u64.wrap n) (b := (M : Int)) (by omega)
  refine ⟨((IntKind.u64.wrap n).tmod M).toNat, ?_, ?_⟩
  · rw [Int.tmod_eq_emod_of_nonneg h0]; omega
  · rw [Int.tmod_eq_emod_of_nonneg h0]; omega
theorem cut_len (c : Nat) (bs : List UInt8) (M : Nat) (M' : Int) (hM' : M' = (M : Int)) (hl : bs.length ≤ c) : ∃ q : Nat, min (bs.length : Int) M' = (q : Int) ∧ (if M' < (bs.length : Int) then M' else (bs.length : Int)) = (q : Int) ∧ (0 : Int) ≤ (q : Int) ∧ (q : Int) ≤ (c : Int) ∧ q = (bs.take M).length ∧ q ≤ M := by
  subst hM'
  refine ⟨(bs.take M).length, ?_, ?_, ?_, ?_, rfl, ?_⟩ <;> rw [List.length_take] <;> (try split) <;> omega
/-- A deed that came in, done; the blocks from B on. -/
theorem step_do2 (B p g k m c r K N : Nat) (L : Lg) (x : RL) (kx : DoL) (w wr : World) (hk : kx.In w) (hB : w.heap.size ≤ B) (hBw : B ≤ wr.heap.size) (hb : Below w.heap.size w wr) (h : PairS B wr p g k m c r L x) (ha : Alike K N L x) (hK : K + 1 < 256) :
    Calls Try.prog 19 #[.pointer (some ⟨p, 0, none⟩), .agg #[.int .i64 kx.op, .slice kx.A kx.b.length kx.c]] wr fun e w' => e = .returned (.bool true) ∧ ∃ L' x', PairS B w' p g k m c r L' x' ∧ Alike (K + 1) N L' x' ∧ Below B wr w' :=
  jdoes_any B p g k m c r K N L x kx.op kx.A kx.c kx.b wr h ha hK (hk.rb.below hb) hk.cc hk.c0 hk.bl (fun a e hne => Nat.lt_of_lt_of_le (hk.rb.old a e hne) hB) hBw
/-- Behind the last deed. -/
structure Last (B : Nat) (w : World) (p l g k m c r : Nat) (op4 must : Bool) (b was : List UInt8) (recs : List (List UInt8)) (sure : Nat) (V0 : Value) (A1 : Option Addr) (c1 : Nat) (rs : List RSl) (d : Dsk) : Prop where
  blk : w.heap[p]? = some (.cells #[.pointer (some ⟨g, 0, none⟩), .pointer (some ⟨l, 0, none⟩), .pointer (some ⟨r, 0, none⟩)] 52 (0, 0))
  dk : DkAt w g k m c d
  wasR : OB w 0 V0 was
  recsR : RecsAt w (.slice A1 rs.length c1) rs
  eq : rs.map RSl.bs = recs
  small : recs.length ≤ 1000000 ∧ sure ≤ 1000000
  good : ∀ keep torn cut, ∃ hf ep sl, Clean 200 (d.crashed keep torn cut) hf ep sl ∧ Good op4 must b was recs sure (d.crashed keep torn cut).hasP
set_option maxRecDepth 100000 in
set_option maxHeartbeats 6400000 in
theorem jcrash_walk (A : Option Addr) (c : Nat) (bs : List UInt8) (Ls : Option Addr) (cl : Nat) (ls : List DoL) (la : DoL) (cu : CutL) (w : World) (hr : RB w A bs) (hA : A = none → c = 0) (hl : bs.length ≤ c) (hm : bs.length ≤ 140737488351232)
    (hL : Lies w Ls (ls.flatMap dok)) (hI : ∀ x ∈ ls, x.In w) (hll : ls.length ≤ 9223372036854775807) (hla : la.In w) (hcu : cu.In w) :
    Calls Try.prog 7 #[.slice A bs.length c, .slice Ls ls.length cl, .agg (dok la).toArray, .agg (cutk cu).toArray] w fun e w' => e = .returned (.bool true) ∧ Below w.heap.size w w' := by
  obtain ⟨q, hq1, hq5, hq0, hq3, hq2, hqM⟩ := cut_len c bs 600 600 rfl hl
  have hR1 := hr.takeN 600
  obtain ⟨b, hb⟩ : ∃ b, bs.take 600 = b := ⟨_, rfl⟩
  rw [hb] at hq2 hR1
  have hbc : b.length ≤ c := by omega
  obtain ⟨lop, lA, lc, lb⟩ := la
  obtain ⟨cf, ct, ca, cA, cc, ck⟩ := cu
  unfold dok cutk
  dsimp only
  obtain ⟨md, hmd, hmd6⟩ := mod_nat lop 6 6 rfl (by decide)
  obtain ⟨fz, hfz, hfz4⟩ := mod_nat cf 40 40 rfl (by decide)
  obtain ⟨W0, hW0⟩ : ∃ W0, ((w.alloc (.cells #[.int .i64 lop, .slice lA lb.length lc] 48)).alloc (.cells #[.int .i64 cf, .int .i64 ct, .int .i64 ca, .slice cA ck.length cc] 43)) = W0 := ⟨_, rfl⟩
  have hsz : W0.heap.size = w.heap.size + 2 := by rw [← hW0]; simp
  have hb0 : Below w.heap.size w W0 := by rw [← hW0]; exact ((Below.refl _ _).alloc (Nat.le_refl _) _).alloc (by simp) _
  have hx0 : W0.heap[w.heap.size]? = some (.cells #[.int .i64 lop, .slice lA lb.length lc] 48 (0, 0)) := by rw [← hW0]; exact blk_alloc (heap_alloc_new w _)
  have hx1 : W0.heap[w.heap.size + 1]? = some (.cells #[.int .i64 cf, .int .i64 ct, .int .i64 ca, .slice cA ck.length cc] 43 (0, 0)) := by
    rw [← hW0]
    have := heap_alloc_new (w.alloc (.cells #[.int .i64 lop, .slice lA lb.length lc] 48)) (.cells #[.int .i64 cf, .int .i64 ct, .int .i64 ca, .slice cA ck.length cc] 43)
    rw [show (w.alloc (.cells #[.int .i64 lop, .slice lA lb.length lc] 48)).heap.size = w.heap.size + 1 by simp] at this
    exact this
  have HM := Lib.hid (made_any 60 A c b W0 (by decide) (by decide) (hR1.below hb0) hA hbc (by omega) (hR1.below hb0).old)
  rw [← hq2] at HM
  obtain ⟨hfe, hfl⟩ := format_new 60 (by decide) (by decide) b
  have HFl := Lib.hid hfl
  have HLs := Lib.hid hL
  have HI := Lib.hid hI
  have HLa := Lib.hid hla
  have HCu := Lib.hid hcu
  have HAw := Lib.hid (fun w2 => jawake_any w2)
  have HSz := Lib.hid hsz
  obtain ⟨R, hR⟩ : ∃ R, RL.format 60 b = R := ⟨_, rfl⟩
  rw [hR] at HM HFl
  obtain ⟨e0, x0⟩ := R
  dsimp only at HM HFl
  obtain ⟨B, hB⟩ : ∃ B, B = W0.heap.size := ⟨_, rfl⟩
  have HB := Lib.hid hB
  rw [← hB] at HM
  have HX := Lib.hid (⟨hb0, hx0, hx1⟩ : _ ∧ _ ∧ _)
  have HW0 := Lib.hid hW0
  clear hr hL hI hR1 hb hq2 hfe hfl hR hB hla hcu hb0 hx0 hx1 hsz hW0
  go_enter Try.func7, Try.ntmps7
  go_wp2_with fail
  rw [HW0.out]
  refine HM.out.mono ?_
  rintro e w1 ⟨pv, rfl, hb1, h1⟩
  rcases h1 with ⟨_, rfl⟩ | ⟨h0, p, g, k, m, c1, r, rfl, hP⟩
  · clear HM HFl HLs HI
    go_wp2_with (go_at_call 13; refine (HAw.out _).mono ?_; rintro e w9 ⟨rfl, hb9⟩)
    go_returns
    have hwB : w.heap.size ≤ B := by have := HB.out; have := HSz.out; omega
    have hb01 : Below w.heap.size w w1 := HX.out.1.trans (hb1.mono hwB)
    exact ⟨rfl, hb01.trans (hb9.mono hb01.size)⟩
  · have hAl : Alike 1 60 (formatLg (fresh 60) b) x0 := by
      obtain ⟨f1, f2, f3, f4⟩ := HFl.out h0
      exact ⟨f1, f3, f2, f4⟩
    have hb1' : Below B W0 w1 := hb1
    have H1 := Lib.hid (⟨_, _, hP, hAl, hb1'⟩ : ∃ L x, PairS B w1 p g k m c1 r L x ∧ Alike 1 60 L x ∧ Below B W0 w1)
    clear HM HFl hP hAl hb1 h0
    go_wp2_with fail
    go_loopg [44] ls.length (fun rr i wr => ∃ j : Nat, j + rr = ls.length ∧ i = .int .i64 j ∧ ∃ L x, PairS B wr p g k m c1 r L x ∧ Alike (1 + min j 30) 60 L x ∧ Below B W0 wr)
    case atStart => exact ⟨0, by omega, rfl, H1.out⟩
    case round =>
      clear H1
      obtain ⟨j, hj, rfl, L, x, hP, ha, hbw⟩ := hrel
      have hwB : w.heap.size ≤ B := by have := HB.out; have := HSz.out; omega
      have hBw : B ≤ wr.heap.size := by have := HB.out; have := hbw.size; omega
      have hbww : Below w.heap.size w wr := HX.out.1.trans (hbw.mono hwB)
      by_cases hjl : j < ls.length
      · obtain ⟨p0, rfl, hcell⟩ := flat_get (f := dok) (n := 2) (fun _ => rfl) (by decide) (HLs.out.below hbww) j hjl
        have hk := HI.out _ (List.getElem_mem hjl)
        generalize ls[j] = kx at hcell hk
        unfold dok at hcell
        have HC := Lib.hid hcell
        have HK := Lib.hid hk
        have HP := Lib.hid hP
        have HA := Lib.hid ha
        have HBw := Lib.hid (⟨hbw, hbww, hwB, hBw⟩ : _ ∧ _ ∧ _ ∧ _)
        clear hcell hk hP ha hbw hbww hwB hBw
        have hj1 : decide ((j : Int) < (ls.length : Int)) = true := decide_eq_true (by omega)
        have hj2 : (j : Int) < (ls.length : Int) := by omega
        have hj0 : (0 : Int) ≤ (j : Int) := by omega
        go_upto_region 7 with (refine wpList_load_any rfl 48 (.tmp 47) rfl _ rfl _ _ HC.out rfl rfl info_do ?_)
        have hb5 : Below wr.heap.size wr (wr.alloc (.cells #[.int .i64 kx.op, .slice kx.A kx.b.length kx.c] 48)) := (Below.refl _ _).alloc (Nat.le_refl _) _
        have hy0 : (wr.alloc (.cells #[.int .i64 kx.op, .slice kx.A kx.b.length kx.c] 48)).cell? ⟨wr.heap.size, 0, none⟩ = some (.int .i64 kx.op) := by go_cell
        have hy1 : (wr.alloc (.cells #[.int .i64 kx.op, .slice kx.A kx.b.length kx.c] 48)).cell? ⟨wr.heap.size, 1, none⟩ = some (.slice kx.A kx.b.length kx.c) := by go_cell
        have HP5 := Lib.hid (HP.out.below hb5)
        have HB5 := Lib.hid (⟨HBw.out.1.trans (hb5.mono HBw.out.2.2.2), HBw.out.2.1.trans (hb5.mono HBw.out.2.1.size), HBw.out.2.2.1, Nat.le_trans HBw.out.2.2.2 hb5.size⟩ : Below B W0 (wr.alloc (.cells #[.int .i64 kx.op, .slice kx.A kx.b.length kx.c] 48)) ∧ Below w.heap.size w (wr.alloc (.cells #[.int .i64 kx.op, .slice kx.A kx.b.length kx.c] 48)) ∧ w.heap.size ≤ B ∧ B ≤ (wr.alloc (.cells #[.int .i64 kx.op, .slice kx.A kx.b.length kx.c] 48)).heap.size)
        generalize (wr.alloc (.cells #[.int .i64 kx.op, .slice kx.A kx.b.length kx.c] 48)) = W5 at *
        generalize wr.heap.size = N5 at *
        clear hb5 HC HP HBw
        by_cases h40 : j < 30
        · have e40 : decide ((j : Int) < 30) = true := decide_eq_true (by omega)
          have HSt := Lib.hid (step_do2 B p g k m c1 r (1 + min j 30) 60 L x kx w W5 HK.out HB5.out.2.2.1 HB5.out.2.2.2 HB5.out.2.1 HP5.out HA.out (by omega))
          go_wp2_with fail
          refine HSt.out.mono ?_
          rintro e w6 ⟨rfl, L', x', hP6, hA6, hb6⟩
          have H6 := Lib.hid (⟨hP6, hA6, hb6⟩ : _ ∧ _ ∧ _)
          clear hP6 hA6 hb6 HSt
          go_wp2_with fail
          go_roundg (ls.length - (j + 1))
          case measure => omega
          case rel =>
            obtain ⟨hP6, hA6, hb6⟩ := H6.out
            exact ⟨j + 1, by omega, by go_num, L', x', hP6, hA6.mono (by omega), HB5.out.1.trans hb6⟩
        · have e40 : decide ((j : Int) < 30) = false := decide_eq_false (by omega)
          go_wp2_with fail
          go_roundg (ls.length - (j + 1))
          case measure => omega
          case rel => exact ⟨j + 1, by omega, by go_num, L, x, HP5.out, HA.out.mono (by omega), HB5.out.1⟩
      · obtain rfl : j = ls.length := by omega
        have hj1 : decide ((ls.length : Int) < (ls.length : Int)) = false := decide_eq_false (by omega)
        obtain ⟨l, q1, qr, hP, hbl⟩ := hP
        have hd0 : Below wr.heap.size wr wr.drew := (Below.refl _ _).drew
        have hPD := hP.below hd0
        have hkx : ∀ i, i < B → wr.heap[i]? = W0.heap[i]? := fun i hi => hbw.block i hi
        have hz0 : wr.heap[w.heap.size]? = some (.cells #[.int .i64 lop, .slice lA lb.length lc] 48 (0, 0)) := (hbw.block _ (by have := HB.out; have := HSz.out; omega)).trans HX.out.2.1
        have hz1 : wr.heap[w.heap.size + 1]? = some (.cells #[.int .i64 cf, .int .i64 ct, .int .i64 ca, .slice cA ck.length cc] 43 (0, 0)) := (hbw.block _ (by have := HB.out; have := HSz.out; omega)).trans HX.out.2.2
        have c0 : wr.drew.cell? ⟨p, 0, none⟩ = some (.pointer (some ⟨g, 0, none⟩)) := blk_cell hP.blk
        have c1' : wr.drew.cell? ⟨w.heap.size + 1, 0, none⟩ = some (.int .i64 cf) := blk_cell hz1
        have ha2 : Alike 31 60 L x := ha.mono (by omega)
        have HF := Lib.hid (fuse_any g k m c1 L.d fz wr.drew hPD.log.dk (by omega) (by omega))
        have hfu : L.d.fuseE = 0 := (ha2.inv.fused fz (by omega)).2
        rw [hfu] at HF
        have HI2 := Lib.hid (ha2.inv.fused fz (by omega)).1
        have HPD := Lib.hid (⟨hPD, hbl, hbw.trans (hd0.mono hBw), Nat.le_trans hBw hd0.size⟩ : _ ∧ _ ∧ _ ∧ _)
        have HZ := Lib.hid (⟨hz0, hz1⟩ : _ ∧ _)
        have HAl := Lib.hid ha2
        have HWB := Lib.hid hwB
        clear hP hbl hd0 hPD hkx hz0 hz1 ha ha2 hfu hbw hbww hBw hwB
        have hwz : IntKind.i64.wrap (fz : Int) = (fz : Int) := IntWalk.i64_in _ (by omega)
        go_wp2_with fail
        go_region_held3 (fun w' => w'.cell? ⟨p, 0, none⟩ = some (.pointer (some ⟨g, 0, none⟩)) ∧ w'.cell? ⟨w.heap.size + 1, 0, none⟩ = some (.int .i64 cf)) (first | exact ⟨c0, c1'⟩ | exact ⟨e0', e1'⟩) (first
          | (go_at_call 28; refine HF.out.mono ?_; rintro e w2 ⟨rfl, hd2, ho2⟩; have hP2 := HPD.out.1.dev hd2 (ho2.mono (by simp)); have e0' : w2.cell? ⟨p, 0, none⟩ = some (.pointer (some ⟨g, 0, none⟩)) := blk_cell hP2.blk; have e1' : w2.cell? ⟨w.heap.size + 1, 0, none⟩ = some (.int .i64 cf) := blk_cell ((ho2.block _ (by have := HPD.out.2.2.2; have := HB.out; have := HSz.out; omega) (by have := HPD.out.2.1 g (by simp); have := HB.out; have := HSz.out; simp; omega)).trans HZ.out.2)))
        clear c0 c1' e0' e1' hwz HF
        obtain ⟨n, hn1, hn5, hn0, hn3, hn2, hnM⟩ := cut_len lc lb 600 600 rfl HLa.out.cc
        obtain ⟨b2, hb2⟩ : ∃ b2, lb.take 600 = b2 := ⟨_, rfl⟩
        rw [hb2] at hn2
        have hg2 := hP2.lt
        have hgB := HPD.out.2.1 g (by simp)
        have hz0 : w2.heap[w.heap.size]? = some (.cells #[.int .i64 lop, .slice lA lb.length lc] 48 (0, 0)) := (ho2.block _ (by have := HPD.out.2.2.2; have := HB.out; have := HSz.out; omega) (by have := HB.out; have := HSz.out; simp; omega)).trans HZ.out.1
        have hz1 : w2.heap[w.heap.size + 1]? = some (.cells #[.int .i64 cf, .int .i64 ct, .int .i64 ca, .slice cA ck.length cc] 43 (0, 0)) := (ho2.block _ (by have := HPD.out.2.2.2; have := HB.out; have := HSz.out; omega) (by have := HB.out; have := HSz.out; simp; omega)).trans HZ.out.2
        have hb02 : Below B W0 w2 := HPD.out.2.2.1.trans (ho2.below (B := B) (by simpa using hgB) HPD.out.2.2.2)
        have hB2 : B ≤ w2.heap.size := Nat.le_trans HPD.out.2.2.2 ho2.size
        have hr2 : RB w2 lA b2 := by rw [← hb2]; exact (HLa.out.rb.below (HX.out.1.trans (hb02.mono HWB.out))).takeN 600
        obtain ⟨A0, c0, A1, c1', rs, hrc, hs0, hA0, hr0, he0, hq0⟩ := hP2.its.forms
        have hsm := HAl.out.small
        have HP2 := Lib.hid (⟨hP2, HPD.out.2.1, hb02, hB2⟩ : _ ∧ _ ∧ _ ∧ _)
        have HR2 := Lib.hid (⟨hr2, hs0, hr0, he0⟩ : _ ∧ _ ∧ _ ∧ _)
        have HZ2 := Lib.hid (⟨hz0, hz1⟩ : _ ∧ _)
        have HB2 := Lib.hid hb2
        have HN2 := Lib.hid hn2
        have l0 : w2.cell? ⟨w.heap.size, 0, none⟩ = some (.int .i64 lop) := blk_cell hz0
        have l1 : w2.cell? ⟨w.heap.size, 1, none⟩ = some (.slice lA lb.length lc) := blk_cell hz0
        have p0 : w2.cell? ⟨p, 0, none⟩ = some (.pointer (some ⟨g, 0, none⟩)) := blk_cell hP2.blk
        have p1 : w2.cell? ⟨p, 1, none⟩ = some (.pointer (some ⟨l, 0, none⟩)) := blk_cell hP2.blk
        have p2 : w2.cell? ⟨p, 2, none⟩ = some (.pointer (some ⟨r, 0, none⟩)) := blk_cell hP2.blk
        have x0 : w2.cell? ⟨r, 0, none⟩ = some (.slice A0 x.snap.length c0) := blk_cell hrc.blk
        have x1 : w2.cell? ⟨r, 1, none⟩ = some (.slice A1 rs.length c1') := blk_cell hrc.blk
        have x2 : w2.cell? ⟨r, 2, none⟩ = some (.int .i64 x.sure) := blk_cell hrc.blk
        clear hb2 hn2 hg2 hgB hz0 hz1 hb02 hB2 hr2 hrc hs0 hr0 he0 hP2 hd2 ho2 HPD HZ
        generalize x.snap.length = SL at *
        go_wp2_with fail
        go_quiet (fail)
        have hdn : Below w2.heap.size w2 (w2.drewN nq) := ⟨rfl, rfl, rfl, Nat.le_refl _, fun _ _ => rfl⟩
        have HP3 : Hid (PairAt (w2.drewN nq) p l g k m c1 r q1 qr { L with d := L.d.fused fz } x ∧ (∀ i ∈ [p, l, g, k, m, r] ++ q1.toList, B ≤ i) ∧ Below B W0 (w2.drewN nq) ∧ B ≤ (w2.drewN nq).heap.size) := ⟨HP2.out.1.below hdn, HP2.out.2.1, HP2.out.2.2.1.trans (hdn.mono HP2.out.2.2.2), HP2.out.2.2.2⟩
        have HR3 : Hid (RB (w2.drewN nq) lA b2 ∧ OB (w2.drewN nq) 0 (.slice A0 SL c0) x.snap ∧ RecsAt (w2.drewN nq) (.slice A1 rs.length c1') rs ∧ rs.map RSl.bs = x.recs) := ⟨HR2.out.1.below hdn, OB.below HR2.out.2.1 hdn, HR2.out.2.2.1.below hdn, HR2.out.2.2.2⟩
        have HZ3 : Hid ((w2.drewN nq).heap[w.heap.size]? = some (.cells #[.int .i64 lop, .slice lA lb.length lc] 48 (0, 0)) ∧ (w2.drewN nq).heap[w.heap.size + 1]? = some (.cells #[.int .i64 cf, .int .i64 ct, .int .i64 ca, .slice cA ck.length cc] 43 (0, 0))) := HZ2.out
        have l0' : (w2.drewN nq).cell? ⟨w.heap.size, 0, none⟩ = some (.int .i64 lop) := l0
        have p0' : (w2.drewN nq).cell? ⟨p, 0, none⟩ = some (.pointer (some ⟨g, 0, none⟩)) := p0
        have p1' : (w2.drewN nq).cell? ⟨p, 1, none⟩ = some (.pointer (some ⟨l, 0, none⟩)) := p1
        have p2' : (w2.drewN nq).cell? ⟨p, 2, none⟩ = some (.pointer (some ⟨r, 0, none⟩)) := p2
        clear HP2 HR2 HZ2 hdn l0 l1 p0 p1 p2 x0 x1 x2
        generalize w2.drewN nq = w3 at *
        have HQ0 := Lib.hid hq0
        have hfit := HI2.out.fit (by omega)
        have hrel := HAl.out.rel.fused HAl.out.inv.alive (fz : Int)
        have HRel := Lib.hid hrel
        have hno : ∀ i ∈ [p, l, g, k, m, r] ++ q1.toList, ∀ a, lA = some a → b2 ≠ [] → a.block ≠ i := fun i hi a e hne => by
          have h1 := HLa.out.rb.old a e (fun e2 => hne (by rw [← HB2.out]; exact (by simpa using congrArg (List.take 600) e2)))
          have h2 := HP3.out.2.1 i hi
          have h3 := HWB.out
          omega
        have HNo := Lib.hid hno
        have hb6 : b2.length ≤ 600 := by have := HN2.out; omega
        have hbc2 : b2.length ≤ lc := by have := HN2.out; omega
        have hA0' := HLa.out.c0
        clear hq0 hrel hno
        go_upto_block 2 with fail
        go_cut [15, 16, 17] (fun s15 s16 s17 wc => ∃ (A1 : Option Addr) (c2 : Nat) (rs2 : List RSl) (sure : Nat) (must : Bool) (l : Nat) (d5 : Dsk) (recs2 : List (List UInt8)), s15 = .slice A1 rs2.length c2 ∧ s16 = .int .i64 sure ∧ s17 = .bool must ∧
          Last B wc p l g k m c1 r (decide (md = 4)) must b2 x.snap recs2 sure (.slice A0 SL c0) A1 c2 rs2 d5 ∧ RB wc lA b2 ∧ Below B W0 wc ∧ B ≤ wc.heap.size)
        case first =>
          by_cases m3 : md ≤ 2
          · have HM4 := Lib.hid (show decide (md = 4) = false from decide_eq_false (by omega))
            have HCr := Lib.hid (crash_append HI2.out (by omega) HRel.out b2)
            have HXa := Lib.hid (fun w2 hh hr2 => rappend_any r qr x lA lc b2 w2 hh hsm.1 hsm.2.1 hsm.2.2.1 hsm.2.2.2.1 hr2 hA0' (fun a e hne hm => HNo.out r (by simp) a e hne hm) (by omega))
            have HLg := Lib.hid (fun w2 hh hr2 => append_any l g k m c1 q1 { L with d := L.d.fused fz } lA lc b2 w2 hh hfit hr2 hA0' hbc2 (by omega) (fun a e hne hm => HNo.out a.block (by simp at hm ⊢; rcases hm with h | h | h | h <;> simp [h]) a e hne rfl))
            rw [← HN2.out] at HXa HLg
            have hcases : md = 0 ∨ md = 1 ∨ md = 2 := by omega
            rcases hcases with he | he | he
            · have f0 : ((md : Int) == 0) = true := by rw [he]; rfl
              clear he m3
              go_wp2_with fail
              refine (HXa.out w3 HP3.out.1.its HR3.out.1).mono ?_
              rintro e w4 ⟨rfl, ho4, qr', hx4, hqr⟩
              have hP4 := HP3.out.1.itss ho4 hx4 (hqr.imp id .inr)
              have hb4 : Below B w3 w4 := ho4.below (B := B) (by intro i hi; exact HP3.out.2.1 i (by simp at hi ⊢; simp [hi])) HP3.out.2.2.2
              have hrb4 := HR3.out.1.only ho4 (fun a e hne hm => HNo.out r (by simp) a e hne (by simpa using hm))
              have hob4 := OB.its HR3.out.2.1 HP3.out.1.its ho4
              have hra4 := RecsAt.its HR3.out.2.2.1 HP3.out.1.its ho4
              obtain ⟨A0', c0', A1', c1'', rs', hrc4, _, _, hra4', he4', hq4'⟩ := hx4.forms
              have p1'' : w4.cell? ⟨p, 1, none⟩ = some (.pointer (some ⟨l, 0, none⟩)) := blk_cell hP4.blk
              have p2'' : w4.cell? ⟨p, 2, none⟩ = some (.pointer (some ⟨r, 0, none⟩)) := blk_cell hP4.blk
              have x1'' : w4.cell? ⟨r, 1, none⟩ = some (.slice A1' rs'.length c1'') := blk_cell hrc4.blk
              have H4 := Lib.hid (⟨hP4, HP3.out.2.2.1.trans hb4, Nat.le_trans HP3.out.2.2.2 ho4.size, hrb4, hob4, hra4, hra4', he4', hq4'⟩ : _ ∧ _ ∧ _ ∧ _ ∧ _ ∧ _ ∧ _ ∧ _ ∧ _)
              clear hP4 hb4 hrb4 hob4 hra4 hrc4 hra4' he4' hq4' ho4 hx4 hqr HXa
              by_cases hE : (x.app b2).2.1 = 0
              · have hE1 : (((x.app b2).2.1 : Int) == 0) = true := by rw [hE]; rfl
                have HE := Lib.hid hE
                clear hE
                go_wp2_with fail
                refine (HLg.out w4 H4.out.1.log H4.out.2.2.2.1).mono ?_
                rintro e w5 ⟨rfl, ⟨q', hl5, hq5'⟩, ho5⟩
                obtain ⟨hP4, hb4, hB4, hrb4, hob4, hra4, hra4', he4', hq4'⟩ := H4.out
                have ho5' : Only w4 w5 ([l, g, k, m] ++ q1.toList) := ho5.mono (by intro i hi; simp at hi ⊢; rcases hi with h | h | h | h <;> simp [h])
                have hP5 := hP4.ours ho5' hl5 (hq5'.imp id .inr)
                have hb5 : Below B w4 w5 := ho5.below (B := B) (by intro i hi; exact HP3.out.2.1 i (by simp at hi ⊢; rcases hi with h | h | h | h <;> simp [h])) hB4
                have hrb5 := hrb4.only ho5 (fun a e hne hm => HNo.out a.block (by simp at hm ⊢; rcases hm with h | h | h | h <;> simp [h]) a e hne rfl)
                have hob5 := OB.ours hob4 hP4.log ho5'
                have hra5 := RecsAt.ours hra4' hP4.log ho5' (fun j hj hq => hP4.apart j hq (by rw [← hq4', hj]))
                have hfew := HAl.out.few
                have har := app_recs HE.out
                go_wp2_with fail
                go_meet
                have hgood : ∀ keep torn cut, ∃ hf ep sl, Clean 200 (((appendP { L with d := L.d.fused fz } b2).2.2.d).crashed keep torn cut) hf ep sl ∧ Good (decide (md = 4)) false b2 x.snap (x.recs ++ [b2]) x.sure (((appendP { L with d := L.d.fused fz } b2).2.2.d).crashed keep torn cut).hasP := by
                  intro keep torn cut
                  obtain ⟨hf, ep, sl, h1, h2⟩ := HCr.out keep torn cut
                  rw [if_pos HE.out] at h2
                  refine ⟨hf, ep, sl, h1.mono (by omega), .inr ⟨rfl, ?_⟩⟩
                  rw [HRel.out.snap, HRel.out.recs, HRel.out.sure]
                  exact h2
                exact ⟨A1', c1'', rs', x.sure, false, l, _, x.recs ++ [b2], rfl, rfl, rfl, ⟨hP5.blk, hP5.log.dk, hob5, hra5, by rw [he4', har.1], by rw [List.length_append, List.length_singleton]; omega, hgood⟩, hrb5, hb4.trans hb5, Nat.le_trans hB4 ho5.size⟩
              · have hE1 : (((x.app b2).2.1 : Int) == 0) = false := by rw [beq_eq_false_iff_ne]; omega
                have hE2 : ¬ (((x.app b2).2.1 : Int) = 0) := by omega
                have HE := Lib.hid hE
                clear hE
                go_wp2_with fail
                refine (HLg.out w4 H4.out.1.log H4.out.2.2.2.1).mono ?_
                rintro e w5 ⟨rfl, ⟨q', hl5, hq5'⟩, ho5⟩
                obtain ⟨hP4, hb4, hB4, hrb4, hob4, hra4, hra4', he4', hq4'⟩ := H4.out
                have ho5' : Only w4 w5 ([l, g, k, m] ++ q1.toList) := ho5.mono (by intro i hi; simp at hi ⊢; rcases hi with h | h | h | h <;> simp [h])
                have hP5 := hP4.ours ho5' hl5 (hq5'.imp id .inr)
                have hb5 : Below B w4 w5 := ho5.below (B := B) (by intro i hi; exact HP3.out.2.1 i (by simp at hi ⊢; rcases hi with h | h | h | h <;> simp [h])) hB4
                have hrb5 := hrb4.only ho5 (fun a e hne hm => HNo.out a.block (by simp at hm ⊢; rcases hm with h | h | h | h <;> simp [h]) a e hne rfl)
                have hob5 := OB.ours hob4 hP4.log ho5'
                have hra5 := RecsAt.ours hra4 hP4.log ho5' (fun j hj hq => HP3.out.1.apart j hq (by rw [← HQ0.out, hj]))
                have hfew := HAl.out.few
                go_wp2_with fail
                go_meet
                have hgood : ∀ keep torn cut, ∃ hf ep sl, Clean 200 (((appendP { L with d := L.d.fused fz } b2).2.2.d).crashed keep torn cut) hf ep sl ∧ Good (decide (md = 4)) false b2 x.snap x.recs x.sure (((appendP { L with d := L.d.fused fz } b2).2.2.d).crashed keep torn cut).hasP := by
                  intro keep torn cut
                  obtain ⟨hf, ep, sl, h1, h2⟩ := HCr.out keep torn cut
                  rw [if_neg HE.out] at h2
                  refine ⟨hf, ep, sl, h1.mono (by omega), .inr ⟨rfl, ?_⟩⟩
                  rw [HRel.out.snap, HRel.out.recs, HRel.out.sure]
                  exact h2
                exact ⟨A1, c1', rs, x.sure, false, l, _, x.recs, rfl, rfl, rfl, ⟨hP5.blk, hP5.log.dk, hob5, hra5, HR3.out.2.2.2, by omega, hgood⟩, hrb5, hb4.trans hb5, Nat.le_trans hB4 ho5.size⟩
            · have f0 : ((md : Int) == 0) = false := by rw [he]; rfl
              have f1 : ((md : Int) == 1) = true := by rw [he]; rfl
              clear he m3
              go_wp2_with fail
              refine (HXa.out w3 HP3.out.1.its HR3.out.1).mono ?_
              rintro e w4 ⟨rfl, ho4, qr', hx4, hqr⟩
              have hP4 := HP3.out.1.itss ho4 hx4 (hqr.imp id .inr)
              have hb4 : Below B w3 w4 := ho4.below (B := B) (by intro i hi; exact HP3.out.2.1 i (by simp at hi ⊢; simp [hi])) HP3.out.2.2.2
              have hrb4 := HR3.out.1.only ho4 (fun a e hne hm => HNo.out r (by simp) a e hne (by simpa using hm))
              have hob4 := OB.its HR3.out.2.1 HP3.out.1.its ho4
              have hra4 := RecsAt.its HR3.out.2.2.1 HP3.out.1.its ho4
              obtain ⟨A0', c0', A1', c1'', rs', hrc4, _, _, hra4', he4', hq4'⟩ := hx4.forms
              have p1'' : w4.cell? ⟨p, 1, none⟩ = some (.pointer (some ⟨l, 0, none⟩)) := blk_cell hP4.blk
              have p2'' : w4.cell? ⟨p, 2, none⟩ = some (.pointer (some ⟨r, 0, none⟩)) := blk_cell hP4.blk
              have x1'' : w4.cell? ⟨r, 1, none⟩ = some (.slice A1' rs'.length c1'') := blk_cell hrc4.blk
              have H4 := Lib.hid (⟨hP4, HP3.out.2.2.1.trans hb4, Nat.le_trans HP3.out.2.2.2 ho4.size, hrb4, hob4, hra4, hra4', he4', hq4'⟩ : _ ∧ _ ∧ _ ∧ _ ∧ _ ∧ _ ∧ _ ∧ _ ∧ _)
              clear hP4 hb4 hrb4 hob4 hra4 hrc4 hra4' he4' hq4' ho4 hx4 hqr HXa
              by_cases hE : (x.app b2).2.1 = 0
              · have hE1 : (((x.app b2).2.1 : Int) == 0) = true := by rw [hE]; rfl
                have HE := Lib.hid hE
                clear hE
                go_wp2_with fail
                refine (HLg.out w4 H4.out.1.log H4.out.2.2.2.1).mono ?_
                rintro e w5 ⟨rfl, ⟨q', hl5, hq5'⟩, ho5⟩
                obtain ⟨hP4, hb4, hB4, hrb4, hob4, hra4, hra4', he4', hq4'⟩ := H4.out
                have ho5' : Only w4 w5 ([l, g, k, m] ++ q1.toList) := ho5.mono (by intro i hi; simp at hi ⊢; rcases hi with h | h | h | h <;> simp [h])
                have hP5 := hP4.ours ho5' hl5 (hq5'.imp id .inr)
                have hb5 : Below B w4 w5 := ho5.below (B := B) (by intro i hi; exact HP3.out.2.1 i (by simp at hi ⊢; rcases hi with h | h | h | h <;> simp [h])) hB4
                have hrb5 := hrb4.only ho5 (fun a e hne hm => HNo.out a.block (by simp at hm ⊢; rcases hm with h | h | h | h <;> simp [h]) a e hne rfl)
                have hob5 := OB.ours hob4 hP4.log ho5'
                have hra5 := RecsAt.ours hra4' hP4.log ho5' (fun j hj hq => hP4.apart j hq (by rw [← hq4', hj]))
                have hfew := HAl.out.few
                have har := app_recs HE.out
                go_wp2_with fail
                go_meet
                have hgood : ∀ keep torn cut, ∃ hf ep sl, Clean 200 (((appendP { L with d := L.d.fused fz } b2).2.2.d).crashed keep torn cut) hf ep sl ∧ Good (decide (md = 4)) false b2 x.snap (x.recs ++ [b2]) x.sure (((appendP { L with d := L.d.fused fz } b2).2.2.d).crashed keep torn cut).hasP := by
                  intro keep torn cut
                  obtain ⟨hf, ep, sl, h1, h2⟩ := HCr.out keep torn cut
                  rw [if_pos HE.out] at h2
                  refine ⟨hf, ep, sl, h1.mono (by omega), .inr ⟨rfl, ?_⟩⟩
                  rw [HRel.out.snap, HRel.out.recs, HRel.out.sure]
                  exact h2
                exact ⟨A1', c1'', rs', x.sure, false, l, _, x.recs ++ [b2], rfl, rfl, rfl, ⟨hP5.blk, hP5.log.dk, hob5, hra5, by rw [he4', har.1], by rw [List.length_append, List.length_singleton]; omega, hgood⟩, hrb5, hb4.trans hb5, Nat.le_trans hB4 ho5.size⟩
              · have hE1 : (((x.app b2).2.1 : Int) == 0) = false := by rw [beq_eq_false_iff_ne]; omega
                have hE2 : ¬ (((x.app b2).2.1 : Int) = 0) := by omega
                have HE := Lib.hid hE
                clear hE
                go_wp2_with fail
                refine (HLg.out w4 H4.out.1.log H4.out.2.2.2.1).mono ?_
                rintro e w5 ⟨rfl, ⟨q', hl5, hq5'⟩, ho5⟩
                obtain ⟨hP4, hb4, hB4, hrb4, hob4, hra4, hra4', he4', hq4'⟩ := H4.out
                have ho5' : Only w4 w5 ([l, g, k, m] ++ q1.toList) := ho5.mono (by intro i hi; simp at hi ⊢; rcases hi with h | h | h | h <;> simp [h])
                have hP5 := hP4.ours ho5' hl5 (hq5'.imp id .inr)
                have hb5 : Below B w4 w5 := ho5.below (B := B) (by intro i hi; exact HP3.out.2.1 i (by simp at hi ⊢; rcases hi with h | h | h | h <;> simp [h])) hB4
                have hrb5 := hrb4.only ho5 (fun a e hne hm => HNo.out a.block (by simp at hm ⊢; rcases hm with h | h | h | h <;> simp [h]) a e hne rfl)
                have hob5 := OB.ours hob4 hP4.log ho5'
                have hra5 := RecsAt.ours hra4 hP4.log ho5' (fun j hj hq => HP3.out.1.apart j hq (by rw [← HQ0.out, hj]))
                have hfew := HAl.out.few
                go_wp2_with fail
                go_meet
                have hgood : ∀ keep torn cut, ∃ hf ep sl, Clean 200 (((appendP { L with d := L.d.fused fz } b2).2.2.d).crashed keep torn cut) hf ep sl ∧ Good (decide (md = 4)) false b2 x.snap x.recs x.sure (((appendP { L with d := L.d.fused fz } b2).2.2.d).crashed keep torn cut).hasP := by
                  intro keep torn cut
                  obtain ⟨hf, ep, sl, h1, h2⟩ := HCr.out keep torn cut
                  rw [if_neg HE.out] at h2
                  refine ⟨hf, ep, sl, h1.mono (by omega), .inr ⟨rfl, ?_⟩⟩
                  rw [HRel.out.snap, HRel.out.recs, HRel.out.sure]
                  exact h2
                exact ⟨A1, c1', rs, x.sure, false, l, _, x.recs, rfl, rfl, rfl, ⟨hP5.blk, hP5.log.dk, hob5, hra5, HR3.out.2.2.2, by omega, hgood⟩, hrb5, hb4.trans hb5, Nat.le_trans hB4 ho5.size⟩
            · have f0 : ((md : Int) == 0) = false := by rw [he]; rfl
              have f1 : ((md : Int) == 1) = false := by rw [he]; rfl
              have f2 : ((md : Int) == 2) = true := by rw [he]; rfl
              clear he m3
              go_wp2_with fail
              refine (HXa.out w3 HP3.out.1.its HR3.out.1).mono ?_
              rintro e w4 ⟨rfl, ho4, qr', hx4, hqr⟩
              have hP4 := HP3.out.1.itss ho4 hx4 (hqr.imp id .inr)
              have hb4 : Below B w3 w4 := ho4.below (B := B) (by intro i hi; exact HP3.out.2.1 i (by simp at hi ⊢; simp [hi])) HP3.out.2.2.2
              have hrb4 := HR3.out.1.only ho4 (fun a e hne hm => HNo.out r (by simp) a e hne (by simpa using hm))
              have hob4 := OB.its HR3.out.2.1 HP3.out.1.its ho4
              have hra4 := RecsAt.its HR3.out.2.2.1 HP3.out.1.its ho4
              obtain ⟨A0', c0', A1', c1'', rs', hrc4, _, _, hra4', he4', hq4'⟩ := hx4.forms
              have p1'' : w4.cell? ⟨p, 1, none⟩ = some (.pointer (some ⟨l, 0, none⟩)) := blk_cell hP4.blk
              have p2'' : w4.cell? ⟨p, 2, none⟩ = some (.pointer (some ⟨r, 0, none⟩)) := blk_cell hP4.blk
              have x1'' : w4.cell? ⟨r, 1, none⟩ = some (.slice A1' rs'.length c1'') := blk_cell hrc4.blk
              have H4 := Lib.hid (⟨hP4, HP3.out.2.2.1.trans hb4, Nat.le_trans HP3.out.2.2.2 ho4.size, hrb4, hob4, hra4, hra4', he4', hq4'⟩ : _ ∧ _ ∧ _ ∧ _ ∧ _ ∧ _ ∧ _ ∧ _ ∧ _)
              clear hP4 hb4 hrb4 hob4 hra4 hrc4 hra4' he4' hq4' ho4 hx4 hqr HXa
              by_cases hE : (x.app b2).2.1 = 0
              · have hE1 : (((x.app b2).2.1 : Int) == 0) = true := by rw [hE]; rfl
                have HE := Lib.hid hE
                clear hE
                go_wp2_with fail
                refine (HLg.out w4 H4.out.1.log H4.out.2.2.2.1).mono ?_
                rintro e w5 ⟨rfl, ⟨q', hl5, hq5'⟩, ho5⟩
                obtain ⟨hP4, hb4, hB4, hrb4, hob4, hra4, hra4', he4', hq4'⟩ := H4.out
                have ho5' : Only w4 w5 ([l, g, k, m] ++ q1.toList) := ho5.mono (by intro i hi; simp at hi ⊢; rcases hi with h | h | h | h <;> simp [h])
                have hP5 := hP4.ours ho5' hl5 (hq5'.imp id .inr)
                have hb5 : Below B w4 w5 := ho5.below (B := B) (by intro i hi; exact HP3.out.2.1 i (by simp at hi ⊢; rcases hi with h | h | h | h <;> simp [h])) hB4
                have hrb5 := hrb4.only ho5 (fun a e hne hm => HNo.out a.block (by simp at hm ⊢; rcases hm with h | h | h | h <;> simp [h]) a e hne rfl)
                have hob5 := OB.ours hob4 hP4.log ho5'
                have hra5 := RecsAt.ours hra4' hP4.log ho5' (fun j hj hq => hP4.apart j hq (by rw [← hq4', hj]))
                have hfew := HAl.out.few
                have har := app_recs HE.out
                go_wp2_with fail
                go_meet
                have hgood : ∀ keep torn cut, ∃ hf ep sl, Clean 200 (((appendP { L with d := L.d.fused fz } b2).2.2.d).crashed keep torn cut) hf ep sl ∧ Good (decide (md = 4)) false b2 x.snap (x.recs ++ [b2]) x.sure (((appendP { L with d := L.d.fused fz } b2).2.2.d).crashed keep torn cut).hasP := by
                  intro keep torn cut
                  obtain ⟨hf, ep, sl, h1, h2⟩ := HCr.out keep torn cut
                  rw [if_pos HE.out] at h2
                  refine ⟨hf, ep, sl, h1.mono (by omega), .inr ⟨rfl, ?_⟩⟩
                  rw [HRel.out.snap, HRel.out.recs, HRel.out.sure]
                  exact h2
                exact ⟨A1', c1'', rs', x.sure, false, l, _, x.recs ++ [b2], rfl, rfl, rfl, ⟨hP5.blk, hP5.log.dk, hob5, hra5, by rw [he4', har.1], by rw [List.length_append, List.length_singleton]; omega, hgood⟩, hrb5, hb4.trans hb5, Nat.le_trans hB4 ho5.size⟩
              · have hE1 : (((x.app b2).2.1 : Int) == 0) = false := by rw [beq_eq_false_iff_ne]; omega
                have hE2 : ¬ (((x.app b2).2.1 : Int) = 0) := by omega
                have HE := Lib.hid hE
                clear hE
                go_wp2_with fail
                refine (HLg.out w4 H4.out.1.log H4.out.2.2.2.1).mono ?_
                rintro e w5 ⟨rfl, ⟨q', hl5, hq5'⟩, ho5⟩
                obtain ⟨hP4, hb4, hB4, hrb4, hob4, hra4, hra4', he4', hq4'⟩ := H4.out
                have ho5' : Only w4 w5 ([l, g, k, m] ++ q1.toList) := ho5.mono (by intro i hi; simp at hi ⊢; rcases hi with h | h | h | h <;> simp [h])
                have hP5 := hP4.ours ho5' hl5 (hq5'.imp id .inr)
                have hb5 : Below B w4 w5 := ho5.below (B := B) (by intro i hi; exact HP3.out.2.1 i (by simp at hi ⊢; rcases hi with h | h | h | h <;> simp [h])) hB4
                have hrb5 := hrb4.only ho5 (fun a e hne hm => HNo.out a.block (by simp at hm ⊢; rcases hm with h | h | h | h <;> simp [h]) a e hne rfl)
                have hob5 := OB.ours hob4 hP4.log ho5'
                have hra5 := RecsAt.ours hra4 hP4.log ho5' (fun j hj hq => HP3.out.1.apart j hq (by rw [← HQ0.out, hj]))
                have hfew := HAl.out.few
                go_wp2_with fail
                go_meet
                have hgood : ∀ keep torn cut, ∃ hf ep sl, Clean 200 (((appendP { L with d := L.d.fused fz } b2).2.2.d).crashed keep torn cut) hf ep sl ∧ Good (decide (md = 4)) false b2 x.snap x.recs x.sure (((appendP { L with d := L.d.fused fz } b2).2.2.d).crashed keep torn cut).hasP := by
                  intro keep torn cut
                  obtain ⟨hf, ep, sl, h1, h2⟩ := HCr.out keep torn cut
                  rw [if_neg HE.out] at h2
                  refine ⟨hf, ep, sl, h1.mono (by omega), .inr ⟨rfl, ?_⟩⟩
                  rw [HRel.out.snap, HRel.out.recs, HRel.out.sure]
                  exact h2
                exact ⟨A1, c1', rs, x.sure, false, l, _, x.recs, rfl, rfl, rfl, ⟨hP5.blk, hP5.log.dk, hob5, hra5, HR3.out.2.2.2, by omega, hgood⟩, hrb5, hb4.trans hb5, Nat.le_trans hB4 ho5.size⟩
          · have f0 : ((md : Int) == 0) = false := by rw [beq_eq_false_iff_ne]; omega
            have f1 : ((md : Int) == 1) = false := by rw [beq_eq_false_iff_ne]; omega
            have f2 : ((md : Int) == 2) = false := by rw [beq_eq_false_iff_ne]; omega
            have hfew := HAl.out.few
            by_cases m4 : md = 3
            · have f3 : ((md : Int) == 3) = true := by rw [m4]; rfl
              have HM4 := Lib.hid (show decide (md = 4) = false from decide_eq_false (by omega))
              have HCr := Lib.hid (crash_sync HI2.out (by omega))
              have HLg := Lib.hid (lsync_any l g k m c1 q1 { L with d := L.d.fused fz } w3 HP3.out.1.log hfit)
              clear m3 m4
              obtain ⟨E, hE⟩ : ∃ E, (syncP { L with d := L.d.fused fz }).1 = E := ⟨_, rfl⟩
              rw [hE] at HCr HLg
              clear hE
              have hfinish : ∀ (w4 : World) (sure : Nat), JLog w4 l g k m c1 q1 (syncP { L with d := L.d.fused fz }).2 → Only w3 w4 [l, g, k, m] → sure = (if E = 0 then x.recs.length else x.sure) →
                  Last B w4 p l g k m c1 r (decide (md = 4)) false b2 x.snap x.recs sure (.slice A0 SL c0) A1 c1' rs (syncP { L with d := L.d.fused fz }).2.d ∧ RB w4 lA b2 ∧ Below B W0 w4 ∧ B ≤ w4.heap.size := by
                intro w4 sure hl4 ho4 hsu
                have ho4' : Only w3 w4 ([l, g, k, m] ++ q1.toList) := ho4.mono (fun i hi => List.mem_append_left _ hi)
                have hP4 := HP3.out.1.ours ho4' hl4 (.inl rfl)
                have hb4 : Below B w3 w4 := ho4.below (B := B) (by intro i hi; exact HP3.out.2.1 i (by simp at hi ⊢; rcases hi with h | h | h | h <;> simp [h])) HP3.out.2.2.2
                refine ⟨⟨hP4.blk, hP4.log.dk, OB.ours HR3.out.2.1 HP3.out.1.log ho4', RecsAt.ours HR3.out.2.2.1 HP3.out.1.log ho4' (fun j hj hq => HP3.out.1.apart j hq (by rw [← HQ0.out, hj])), HR3.out.2.2.2, ?_, ?_⟩, HR3.out.1.only ho4 (fun a e hne hm => HNo.out a.block (by simp at hm ⊢; rcases hm with h | h | h | h <;> simp [h]) a e hne rfl), HP3.out.2.2.1.trans hb4, Nat.le_trans HP3.out.2.2.2 ho4.size⟩
                · rw [hsu]; split <;> omega
                · intro keep torn cut
                  obtain ⟨hf, ep, sl, h1, h2⟩ := HCr.out keep torn cut
                  refine ⟨hf, ep, sl, h1.mono (by omega), .inr ⟨rfl, ?_⟩⟩
                  rw [hsu, HRel.out.snap, HRel.out.recs, HRel.out.sure]
                  exact h2
              have HFi := Lib.hid hfinish
              have HQL := Lib.hid (show rs.length = x.recs.length by rw [← HR3.out.2.2.2, List.length_map])
              clear hfinish
              by_cases hz : E = 0
              · have hz1 : ((E : Int) == 0) = true := by rw [hz]; rfl
                have HZz := Lib.hid hz
                subst hz
                go_wp2_with fail
                refine HLg.out.mono ?_
                rintro e w4 ⟨rfl, hl4, ho4⟩
                have hfin := HFi.out w4 rs.length hl4 ho4 (by simpa using HQL.out)
                go_wp2_with fail
                go_meet
                exact ⟨A1, c1', rs, rs.length, false, l, _, x.recs, rfl, rfl, rfl, hfin⟩
              · have hz1 : ((E : Int) == 0) = false := by rw [beq_eq_false_iff_ne]; omega
                have hz2 : ¬ ((E : Int) = 0) := by omega
                have HZz := Lib.hid hz
                clear hz
                go_wp2_with fail
                refine HLg.out.mono ?_
                rintro e w4 ⟨rfl, hl4, ho4⟩
                have hfin := HFi.out w4 x.sure hl4 ho4 (by rw [if_neg HZz.out])
                go_wp2_with fail
                go_meet
                exact ⟨A1, c1', rs, x.sure, false, l, _, x.recs, rfl, rfl, rfl, hfin⟩
            · have f3 : ((md : Int) == 3) = false := by rw [beq_eq_false_iff_ne]; omega
              by_cases m5 : md = 4
              · have f4 : ((md : Int) == 4) = true := by rw [m5]; rfl
                have HM4 := Lib.hid m5
                have HCr := Lib.hid (crash_save HI2.out (by omega) b2 (by omega))
                have HLg := Lib.hid (save_any l g k m c1 q1 { L with d := L.d.fused fz } lA lc b2 w3 HP3.out.1.log hfit HR3.out.1 hA0' hbc2 (by omega))
                rw [← HN2.out] at HLg
                clear m3 m4 m5
                obtain ⟨E, hE⟩ : ∃ E, (saveP { L with d := L.d.fused fz } b2).1 = E := ⟨_, rfl⟩
                rw [hE] at HCr HLg
                clear hE
                go_wp2_with fail
                refine HLg.out.mono ?_
                rintro e w4 ⟨rfl, ⟨q', hl4, hq'⟩, ho4⟩
                have ho4' : Only w3 w4 ([l, g, k, m] ++ q1.toList) := ho4.mono (fun i hi => List.mem_append_left _ hi)
                have hP4 := HP3.out.1.ours ho4' hl4 (hq'.imp id .inl)
                have hb4 : Below B w3 w4 := ho4.below (B := B) (by intro i hi; exact HP3.out.2.1 i (by simp at hi ⊢; rcases hi with h | h | h | h <;> simp [h])) HP3.out.2.2.2
                have hgood : ∀ keep torn cut, ∃ hf ep sl, Clean 200 (((saveP { L with d := L.d.fused fz } b2).2.d).crashed keep torn cut) hf ep sl ∧ Good (decide (md = 4)) ((E : Int) == 0) b2 x.snap x.recs x.sure (((saveP { L with d := L.d.fused fz } b2).2.d).crashed keep torn cut).hasP := by
                  intro keep torn cut
                  obtain ⟨hf, ep, sl, h1, h2⟩ := HCr.out keep torn cut
                  refine ⟨hf, ep, sl, h1.mono (by omega), ?_⟩
                  rcases h2 with h2 | ⟨h2, h3⟩
                  · exact .inl ⟨decide_eq_true HM4.out, h2⟩
                  · refine .inr ⟨by rw [beq_eq_false_iff_ne]; omega, ?_⟩
                    rw [HRel.out.snap, HRel.out.recs, HRel.out.sure]
                    exact h3
                have hfin : Last B w4 p l g k m c1 r (decide (md = 4)) ((E : Int) == 0) b2 x.snap x.recs x.sure (.slice A0 SL c0) A1 c1' rs (saveP { L with d := L.d.fused fz } b2).2.d ∧ RB w4 lA b2 ∧ Below B W0 w4 ∧ B ≤ w4.heap.size :=
                  ⟨⟨hP4.blk, hP4.log.dk, OB.ours HR3.out.2.1 HP3.out.1.log ho4', RecsAt.ours HR3.out.2.2.1 HP3.out.1.log ho4' (fun j hj hq => HP3.out.1.apart j hq (by rw [← HQ0.out, hj])), HR3.out.2.2.2, by omega, hgood⟩, HR3.out.1.only ho4 (fun a e hne hm => HNo.out a.block (by simp at hm ⊢; rcases hm with h | h | h | h <;> simp [h]) a e hne rfl), HP3.out.2.2.1.trans hb4, Nat.le_trans HP3.out.2.2.2 ho4.size⟩
                clear hgood hP4 hb4 ho4' hl4 hq' ho4
                go_wp2_with fail
                go_meet
                exact ⟨A1, c1', rs, x.sure, (E : Int) == 0, l, _, x.recs, rfl, rfl, rfl, hfin⟩
              · have f4 : ((md : Int) == 4) = false := by rw [beq_eq_false_iff_ne]; omega
                have HM4 := Lib.hid (show decide (md = 4) = false from decide_eq_false m5)
                have HCr := Lib.hid (open_step HI2.out (by omega)).2
                have HLg := Lib.hid (open_log g k m c1 (L.d.fused fz) w3 HP3.out.1.log.dk)
                clear m3 m4 m5
                go_wp2_with fail
                refine HLg.out.mono ?_
                rintro e w4 ⟨pv4, rfl, hd4, ho4, -⟩
                have hdk := HP3.out.1.log.dk
                have hpb := (ho4.block p (blk_lt HP3.out.1.blk) (hdk.apart HP3.out.1.blk (by decide) (by decide))).trans HP3.out.1.blk
                have hb4 : Below B w3 w4 := ho4.below (B := B) (by intro i hi; exact HP3.out.2.1 i (by simp at hi ⊢; rcases hi with h | h | h <;> simp [h])) HP3.out.2.2.2
                have hgood : ∀ keep torn cut, ∃ hf ep sl, Clean 200 (((openP (L.d.fused fz)).d).crashed keep torn cut) hf ep sl ∧ Good (decide (md = 4)) false b2 x.snap x.recs x.sure (((openP (L.d.fused fz)).d).crashed keep torn cut).hasP := by
                  intro keep torn cut
                  obtain ⟨hf, ep, sl, h1, h2⟩ := HCr.out keep torn cut
                  refine ⟨hf, ep, sl, h1.mono (by omega), .inr ⟨rfl, ?_⟩⟩
                  rw [HRel.out.snap, HRel.out.recs, HRel.out.sure]
                  exact h2
                have hfin : Last B w4 p l g k m c1 r (decide (md = 4)) false b2 x.snap x.recs x.sure (.slice A0 SL c0) A1 c1' rs (openP (L.d.fused fz)).d ∧ RB w4 lA b2 ∧ Below B W0 w4 ∧ B ≤ w4.heap.size :=
                  ⟨⟨hpb, hd4, OB.disk HR3.out.2.1 hdk ho4, RecsAt.disk HR3.out.2.2.1 hdk ho4, HR3.out.2.2.2, by omega, hgood⟩, HR3.out.1.only ho4 (fun a e hne hm => HNo.out a.block (by simp at hm ⊢; rcases hm with h | h | h <;> simp [h]) a e hne rfl), HP3.out.2.2.1.trans hb4, Nat.le_trans HP3.out.2.2.2 ho4.size⟩
                clear hgood hpb hb4 hdk hd4 ho4
                go_wp2_with fail
                go_meet
                exact ⟨A1, c1', rs, x.sure, false, l, _, x.recs, rfl, rfl, rfl, hfin⟩
        case rest =>
          obtain ⟨A2, c2, rs2, sure, must, l2, d5, recs2, rfl, rfl, rfl, hL, hrb, hb5, hB5⟩ := hcut
          have hwB := HWB.out
          have hBs : B = w.heap.size + 2 := by rw [HB.out]; exact HSz.out
          have hz0 := (hb5.block w.heap.size (by omega)).trans HX.out.2.1
          have hz1 := (hb5.block (w.heap.size + 1) (by omega)).trans HX.out.2.2
          have hdr : Below wc.heap.size wc wc.drew := (Below.refl _ _).drew
          have e0 : wc.drew.cell? ⟨p, 0, none⟩ = some (.pointer (some ⟨g, 0, none⟩)) := blk_cell hL.blk
          have e1 : wc.drew.cell? ⟨w.heap.size + 1, 3, none⟩ = some (.slice cA ck.length cc) := blk_cell hz1
          have e2 : wc.drew.cell? ⟨w.heap.size + 1, 1, none⟩ = some (.int .i64 ct) := blk_cell hz1
          have e3 : wc.drew.cell? ⟨w.heap.size + 1, 2, none⟩ = some (.int .i64 ca) := blk_cell hz1
          have hgB : ∀ i ∈ [g, k, m], B ≤ i := fun i hi => HP3.out.2.1 i (by simp at hi ⊢; rcases hi with h | h | h <;> simp [h])
          have hdkD := hL.dk.below hdr
          have HCr := Lib.hid (crash_any g k m c1 d5 cA cc ck ct ca wc.drew hdkD (HCu.out.ks.below ((HX.out.1.trans (hb5.mono hwB)).trans (hdr.mono (Nat.le_trans hwB hB5)))) (fun a e hne hm => by have h1 := lies_old HCu.out.ks (by simpa using hne) a e; have h2 := hgB _ hm; omega) HCu.out.kl)
          obtain ⟨hf, ep, sl, hCl, hG⟩ := hL.good ck ct ca
          have HL := Lib.hid (⟨hL, hrb, hb5, hB5, hz0, hgB, hG, hwB, hBs⟩ : _ ∧ _ ∧ _ ∧ _ ∧ _ ∧ _ ∧ _ ∧ _ ∧ _)
          have HCl := Lib.hid hCl
          have HKp : Hid (∀ w6, Only wc.drew w6 [g, k, m] → w6.cell? ⟨p, 0, none⟩ = some (.pointer (some ⟨g, 0, none⟩)) ∧ w6.cell? ⟨w.heap.size + 1, 3, none⟩ = some (.slice cA ck.length cc) ∧ w6.cell? ⟨w.heap.size + 1, 1, none⟩ = some (.int .i64 ct) ∧ w6.cell? ⟨w.heap.size + 1, 2, none⟩ = some (.int .i64 ca)) := fun w6 ho6 => by
            have b1 := (ho6.block p (blk_lt hL.blk) (hL.dk.apart hL.blk (by decide) (by decide))).trans hL.blk
            have b2 := (ho6.block (w.heap.size + 1) (blk_lt hz1) (fun hm => by have := hgB _ hm; omega)).trans hz1
            exact ⟨blk_cell b1, blk_cell b2, blk_cell b2, blk_cell b2⟩
          clear hL hrb hb5 hB5 hz0 hz1 hdr hgB hdkD hG hCl hwB hBs
          go_wp2_with fail
          go_region_held3 (fun w' => w'.cell? ⟨p, 0, none⟩ = some (.pointer (some ⟨g, 0, none⟩)) ∧ w'.cell? ⟨w.heap.size + 1, 3, none⟩ = some (.slice cA ck.length cc) ∧ w'.cell? ⟨w.heap.size + 1, 1, none⟩ = some (.int .i64 ct) ∧ w'.cell? ⟨w.heap.size + 1, 2, none⟩ = some (.int .i64 ca)) (first | exact ⟨e0, e1, e2, e3⟩ | exact e4) (first
            | (go_at_call 20; refine HCr.out.mono ?_; rintro e w6 ⟨rfl, hd6, ho6⟩; have e4 : w6.cell? ⟨p, 0, none⟩ = some (.pointer (some ⟨g, 0, none⟩)) ∧ w6.cell? ⟨w.heap.size + 1, 3, none⟩ = some (.slice cA ck.length cc) ∧ w6.cell? ⟨w.heap.size + 1, 1, none⟩ = some (.int .i64 ct) ∧ w6.cell? ⟨w.heap.size + 1, 2, none⟩ = some (.int .i64 ca) := HKp.out w6 ho6))
          clear e0 e1 e2 e3 HCr HKp
          obtain ⟨d6, hd6e⟩ : ∃ d6, d5.crashed ck ct ca = d6 := ⟨_, rfl⟩
          rw [hd6e] at hd6 HL HCl
          obtain ⟨s, rs', hh, hF⟩ : ∃ s rs', d6.hasP = s :: rs' ∧ ((md = 4 ∧ s = b2 ∧ rs' = []) ∨ (must = false ∧ s = x.snap ∧ sure ≤ rs'.length ∧ rs'.length ≤ recs2.length ∧ rs' = recs2.take rs'.length)) := by
            obtain ⟨-, -, -, -, -, -, hG, -⟩ := HL.out
            rcases hG with ⟨h1, h2⟩ | ⟨h1, kk, h2, h3, h4⟩
            · exact ⟨b2, [], h2, .inl ⟨of_decide_eq_true h1, rfl, rfl⟩⟩
            · refine ⟨x.snap, _, h4, .inr ⟨h1, rfl, ?_⟩⟩
              have e : (recs2.take kk).length = kk := by rw [List.length_take]; omega
              rw [e]
              exact ⟨h2, h3, rfl⟩
          obtain ⟨o1, o2, o3, o4, o5, o6, o7⟩ := open_clean HCl.out (by decide) s rs' hh
          have HOp := Lib.hid (open_log g k m c1 d6 w6 hd6)
          rw [o1] at HOp
          have hfe := o2.few
          obtain ⟨Ly, hLy⟩ : ∃ Ly, openLg d6 = Ly := ⟨_, rfl⟩
          rw [hLy] at HOp o2 o5 o6 o7 hfe
          have hFF : (md = 4 ∧ foundP Ly b2 [] 0 = true) ∨ (must = false ∧ foundP Ly x.snap recs2 sure = true) := by
            unfold foundP
            rw [o5, o6]
            rcases hF with ⟨h1, h2, h3⟩ | ⟨h1, h2, h3, h4, h5⟩
            · refine .inl ⟨h1, ?_⟩
              subst h2; subst h3
              simp
            · refine .inr ⟨h1, ?_⟩
              rw [h2, decide_eq_true h3, decide_eq_true h4, decide_eq_true h5]
              simp
          have hsl : Ly.snap.length ≤ 262144 := o2.snapl
          have hrl : ∀ y ∈ Ly.recs, y.length ≤ 262144 := o2.recl
          have hq : (((md : Int) == 4)) = decide (md = 4) := by
            by_cases h4 : md = 4
            · rw [h4]; rfl
            · rw [decide_eq_false h4, beq_eq_false_iff_ne]; omega
          have hsu : Ly.su = Ly.recs.length := by rw [o7, o6]
          obtain ⟨NR, hNR⟩ : ∃ NR, Ly.recs.length = NR := ⟨_, rfl⟩
          obtain ⟨hLc, hrbc, hbc5, hBc5, hzc0, hgB, -, hwB, hBs⟩ := HL.out
          have hbc6 : Below B wc w6 := ((Below.refl wc.heap.size wc).drew.mono hBc5).trans (ho6.below hgB hBc5)
          have hbW6 : Below B W0 w6 := hbc5.trans hbc6
          have hp6 : w6.cell? ⟨p, 0, none⟩ = some (.pointer (some ⟨g, 0, none⟩)) := e4.1
          have hoc6 : Only wc w6 [g, k, m] := (Only.of_below (Below.refl wc.heap.size wc).drew _).trans ho6
          have hgood6 : RB w6 lA b2 ∧ OB w6 0 (.slice A0 SL c0) x.snap ∧ RecsAt w6 (.slice A2 rs2.length c2) rs2 :=
            ⟨hrbc.only hoc6 (fun a e hne hm => HNo.out a.block (by simp at hm ⊢; rcases hm with h | h | h <;> simp [h]) a e hne rfl), OB.disk hLc.wasR hLc.dk hoc6, hLc.recsR.disk hLc.dk hoc6⟩
          have hz6 : w6.heap[w.heap.size]? = some (.cells #[.int .i64 lop, .slice lA lb.length lc] 48 (0, 0)) := (hbW6.block w.heap.size (by omega)).trans HX.out.2.1
          have H6 := Lib.hid (⟨hbW6, hgood6, hgB, hwB, hBs, Nat.le_trans hBc5 hbc6.size, hLc.eq, hLc.small, hz6, hd6⟩ : _ ∧ _ ∧ _ ∧ _ ∧ _ ∧ _ ∧ _ ∧ _ ∧ _ ∧ _)
          have HFF := Lib.hid hFF
          have HLy := Lib.hid (⟨hsl, hrl, hfe.1, hsu, hNR⟩ : _ ∧ _ ∧ _ ∧ _ ∧ _)
          clear hoc6 hz6 hFF hsl hrl hfe hsu hNR hLc hrbc hbc5 hBc5 hzc0 hgB hwB hBs hbc6 hbW6 hgood6 o1 o2 o3 o4 o5 o6 o7 hLy hh hF hd6e HL HCl hd6 ho6 e4
          go_wp2_with fail
          refine HOp.out.mono ?_
          rintro e w7 ⟨pv, rfl, hd7, ho7, h7⟩
          rcases h7 with ⟨h7, _⟩ | ⟨_, y, q7, rfl, hy, hj7, _, hq7⟩
          · exact absurd rfl h7
          have HRd : Hid (∃ n0, SL = n0 ∧ n0 = x.snap.length) := by
            obtain ⟨A', c', e', _⟩ := OB.form H6.out.2.1.2.1
            injection e' with _ e2 _
            exact ⟨_, rfl, e2⟩
          obtain ⟨hsl, hrl, hfe, hsu, hNR⟩ := HLy.out
          have ho67 : Only w6 w7 [g, k, m] := ho7
          have hb67 : Below B w6 w7 := ho7.below H6.out.2.2.1 H6.out.2.2.2.2.2.1
          have hrb7 : RB w7 lA b2 := H6.out.2.1.1.only ho7 (fun a e hne hm => HNo.out a.block (by simp at hm ⊢; rcases hm with h | h | h <;> simp [h]) a e hne rfl)
          have hob7 : OB w7 0 (.slice A0 SL c0) x.snap := OB.disk H6.out.2.1.2.1 H6.out.2.2.2.2.2.2.2.2.2 ho7
          have hra7 : RecsAt w7 (.slice A2 rs2.length c2) rs2 := RecsAt.disk H6.out.2.1.2.2 H6.out.2.2.2.2.2.2.2.2.2 ho7
          have hbW7 : Below B W0 w7 := H6.out.1.trans hb67
          have l7 : w7.cell? ⟨w.heap.size, 0, none⟩ = some (.int .i64 lop) := blk_cell ((hbW7.block w.heap.size (by have := H6.out.2.2.2.2.1; omega)).trans HX.out.2.1)
          have hend : Below w.heap.size w w7 := HX.out.1.trans (hbW7.mono H6.out.2.2.2.1)
          obtain ⟨n0, hn0', hn0''⟩ := HRd.out
          have hrsl : rs2.length = recs2.length := by rw [← H6.out.2.2.2.2.2.2.1, List.length_map]
          have HF1 := Lib.hid (fun w8 (hb : Below w7.heap.size w7 w8) => jfound_any y g k m c1 q7 Ly lA lc b2 none 0 [] 0 w8 (hj7.below hb) (hrb7.below hb) ⟨none, 0, rfl, Nat.le_refl _, fun _ => rfl, Lies.nil _ _, by simp⟩ hsl hrl hfe (by simp) (by decide))
          have HF2 := Lib.hid (fun w8 (hb : Below w7.heap.size w7 w8) => jfound_any y g k m c1 q7 Ly A0 c0 x.snap A2 c2 rs2 sure w8 (hj7.below hb) ((RB.of_own hob7).below hb) ((RecsAt.read hra7).below hb) hsl hrl hfe (by have := H6.out.2.2.2.2.2.2.2.1.1; omega) (H6.out.2.2.2.2.2.2.2.1.2))
          rw [H6.out.2.2.2.2.2.2.1] at HF2
          rw [← hn0'', ← hn0'] at HF2
          have HSu := Lib.hid (fun w8 (hb : Below w7.heap.size w7 w8) => sure_any y g k m c1 q7 Ly w8 (hj7.below hb))
          have HRe := Lib.hid (fun w8 (hb : Below w7.heap.size w7 w8) => records_any y g k m c1 q7 Ly w8 (hj7.below hb) (fun z hz => by have := hrl z hz; omega) hfe)
          rw [hsu, hNR] at HSu
          have HEnd := Lib.hid hend
          have HNR := Lib.hid hNR
          have HQ := Lib.hid hq
          rw [← HN2.out, List.map_nil, List.length_nil] at HF1
          obtain ⟨F1, hF1⟩ : ∃ F1, foundP Ly b2 [] 0 = F1 := ⟨_, rfl⟩
          obtain ⟨F2, hF2⟩ : ∃ F2, foundP Ly x.snap recs2 sure = F2 := ⟨_, rfl⟩
          have hFq := HFF.out
          rw [hF1] at HF1 hFq
          rw [hF2] at HF2 hFq
          have HRefl := Lib.hid (Below.refl w7.heap.size w7)
          clear hq hF1 hF2 hsl hrl hfe hsu hNR ho67 hb67 hrb7 hob7 hra7 hbW7 hend hn0' hn0'' hrsl hj7 hd7 ho7 hq7 hy HOp p0' p1' p2' l0' hfit hq1 hq5 hn1 hn5 hj hjl hj1
          by_cases m4 : md = 4
          · have fm : ((md : Int) == 4) = true := by rw [m4]; rfl
            cases F1 with
            | true =>
              clear hFq m4
              go_wp2_with fail
              refine (HF1.out _ HRefl.out).mono ?_
              rintro e w9 ⟨rfl, hb9⟩
              have HB9 := Lib.hid hb9
              clear hb9
              go_wp2_with fail
              refine (HSu.out _ HB9.out).mono ?_
              rintro e w10 ⟨rfl, rfl⟩
              go_wp2_with fail
              refine (HRe.out _ HB9.out).mono ?_
              rintro e w11 ⟨v11, rs11, rfl, hw11, -, hq11, hb11⟩
              have hl11 : rs11.length = NR := by have := congrArg List.length hq11; rw [List.length_map] at this; rw [this]; exact HNR.out
              rw [hl11] at hw11
              obtain ⟨A11, c11, rfl, -⟩ := own_form hw11
              have HB11 := Lib.hid (HB9.out.trans (hb11.mono HB9.out.size))
              have qq : ((NR : Int) == (NR : Int)) = true := by simp
              clear hw11 hq11 hb11 hl11
              go_wp2_with (go_at_call 13; refine (HAw.out _).mono ?_; rintro e w12 ⟨rfl, hb12⟩)
              go_returns
              exact ⟨rfl, HEnd.out.trans ((HB11.out.trans (hb12.mono HB11.out.size)).mono HEnd.out.size)⟩
            | false =>
              obtain ⟨rfl, rfl⟩ : must = false ∧ F2 = true := by
                rcases hFq with ⟨_, h⟩ | h
                · cases h
                · exact h
              clear hFq m4
              go_wp2_with fail
              refine (HF1.out _ HRefl.out).mono ?_
              rintro e w8 ⟨rfl, hb8⟩
              have HB8 := Lib.hid hb8
              clear hb8
              go_wp2_with fail
              refine (HF2.out _ HB8.out).mono ?_
              rintro e w9 ⟨rfl, hb9⟩
              have HB9 := Lib.hid (HB8.out.trans (hb9.mono HB8.out.size))
              clear hb9
              go_wp2_with fail
              refine (HSu.out _ HB9.out).mono ?_
              rintro e w10 ⟨rfl, rfl⟩
              go_wp2_with fail
              refine (HRe.out _ HB9.out).mono ?_
              rintro e w11 ⟨v11, rs11, rfl, hw11, -, hq11, hb11⟩
              have hl11 : rs11.length = NR := by have := congrArg List.length hq11; rw [List.length_map] at this; rw [this]; exact HNR.out
              rw [hl11] at hw11
              obtain ⟨A11, c11, rfl, -⟩ := own_form hw11
              have HB11 := Lib.hid (HB9.out.trans (hb11.mono HB9.out.size))
              have qq : ((NR : Int) == (NR : Int)) = true := by simp
              clear hw11 hq11 hb11 hl11
              go_wp2_with (go_at_call 13; refine (HAw.out _).mono ?_; rintro e w12 ⟨rfl, hb12⟩)
              go_returns
              exact ⟨rfl, HEnd.out.trans ((HB11.out.trans (hb12.mono HB11.out.size)).mono HEnd.out.size)⟩
          · have fm : ((md : Int) == 4) = false := by rw [beq_eq_false_iff_ne]; omega
            obtain ⟨rfl, rfl⟩ : must = false ∧ F2 = true := by
              rcases hFq with ⟨h, _⟩ | h
              · exact absurd h m4
              · exact h
            clear hFq m4
            go_wp2_with fail
            refine (HF2.out _ HRefl.out).mono ?_
            rintro e w9 ⟨rfl, hb9⟩
            have HB9 := Lib.hid hb9
            clear hb9
            go_wp2_with fail
            refine (HSu.out _ HB9.out).mono ?_
            rintro e w10 ⟨rfl, rfl⟩
            go_wp2_with fail
            refine (HRe.out _ HB9.out).mono ?_
            rintro e w11 ⟨v11, rs11, rfl, hw11, -, hq11, hb11⟩
            have hl11 : rs11.length = NR := by have := congrArg List.length hq11; rw [List.length_map] at this; rw [this]; exact HNR.out
            rw [hl11] at hw11
            obtain ⟨A11, c11, rfl, -⟩ := own_form hw11
            have HB11 := Lib.hid (HB9.out.trans (hb11.mono HB9.out.size))
            have qq : ((NR : Int) == (NR : Int)) = true := by simp
            clear hw11 hq11 hb11 hl11
            go_wp2_with (go_at_call 13; refine (HAw.out _).mono ?_; rintro e w12 ⟨rfl, hb12⟩)
            go_returns
            exact ⟨rfl, HEnd.out.trans ((HB11.out.trans (hb12.mono HB11.out.size)).mono HEnd.out.size)⟩
end Go.Proofs.Ytjfpanamkkdebaa
