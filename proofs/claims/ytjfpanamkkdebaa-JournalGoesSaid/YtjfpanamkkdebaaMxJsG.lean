/- JournalAgain: the walk. -/
import Derived.Test.YtjfpanamkkdebaaMxJsF
import Derived.Test.YtjfpanamkkdebaaMxPhD
namespace Go.Proofs.Ytjfpanamkkdebaa
open Go.RowKit
set_option linter.unusedVariables false
set_option linter.unusedSimpArgs false
/-- The pair's device, behind whatever was done to it. -/
structure Pd (B : Nat) (W0 w : World) (p l g k m c r : Nat) (d : Dsk) : Prop where
  blk : w.heap[p]? = some (.cells #[.pointer (some ⟨g, 0, none⟩), .pointer (some ⟨l, 0, none⟩), .pointer (some ⟨r, 0, none⟩)] 52 (0, 0))
  dk : DkAt w g k m c d
  ge : ∀ i ∈ [g, k, m], B ≤ i
  below : Below B W0 w
  size : B ≤ w.heap.size
theorem Pd.step {B : Nat} {W0 w w' : World} {p l g k m c r : Nat} {d d' : Dsk} (h : Pd B W0 w p l g k m c r d) (ho : Only w w' [g, k, m]) (hd : DkAt w' g k m c d') : Pd B W0 w' p l g k m c r d' :=
  ⟨(ho.block p (blk_lt h.blk) (h.dk.apart h.blk (by decide) (by decide))).trans h.blk, hd, h.ge, h.below.trans (ho.below h.ge h.size), Nat.le_trans h.size ho.size⟩
theorem Pd.beside {B : Nat} {W0 w w' : World} {p l g k m c r : Nat} {d : Dsk} (h : Pd B W0 w p l g k m c r d) (hb : Below w.heap.size w w') : Pd B W0 w' p l g k m c r d :=
  ⟨(hb.block p (blk_lt h.blk)).trans h.blk, h.dk.below hb, h.ge, h.below.trans (hb.mono h.size), Nat.le_trans h.size hb.size⟩
theorem Pd.p0 {B : Nat} {W0 w : World} {p l g k m c r : Nat} {d : Dsk} (h : Pd B W0 w p l g k m c r d) : w.cell? ⟨p, 0, none⟩ = some (.pointer (some ⟨g, 0, none⟩)) := blk_cell h.blk
/-- A log on another device. -/
theorem JLog.apartD {w w' : World} {l g k m c g2 k2 m2 c2 : Nat} {q : Option Nat} {L : Lg} {d : Dsk} (hj : JLog w l g2 k2 m2 c2 q L) (hd : DkAt w g k m c d) (hn : g2 ∉ [g, k, m] ∧ k2 ∉ [g, k, m] ∧ m2 ∉ [g, k, m]) (ho : Only w w' [g, k, m]) : JLog w' l g2 k2 m2 c2 q L := by
  obtain ⟨lc, hlb⟩ := hj.blk
  exact hj.only ho (hd.apart hlb (by decide) (by decide)) hn.1 hn.2.1 hn.2.2 (fun j cs e f hj he => hd.apart hj (by rcases he with rfl | rfl <;> decide) (by rcases he with rfl | rfl <;> decide))
set_option maxRecDepth 100000 in
set_option maxHeartbeats 6400000 in
theorem jagain_walk (A : Option Addr) (c : Nat) (bs : List UInt8) (Ls : Option Addr) (cl : Nat) (ls : List DoL) (cu ag : CutL) (w : World) (hr : RB w A bs) (hA : A = none → c = 0) (hl : bs.length ≤ c) (hm : bs.length ≤ 140737488351232)
    (hL : Lies w Ls (ls.flatMap dok)) (hI : ∀ x ∈ ls, x.In w) (hll : ls.length ≤ 9223372036854775807) (hcu : cu.In w) (hag : ag.In w) :
    Calls Try.prog 8 #[.slice A bs.length c, .slice Ls ls.length cl, .agg (cutk cu).toArray, .agg (cutk ag).toArray] w fun e w' => e = .returned (.bool true) ∧ Below w.heap.size w w' := by
  obtain ⟨q, hq1, hq5, hq0, hq3, hq2, hqM⟩ := cut_len c bs 600 600 rfl hl
  have hR1 := hr.takeN 600
  obtain ⟨b, hb⟩ : ∃ b, bs.take 600 = b := ⟨_, rfl⟩
  rw [hb] at hq2 hR1
  have hbc : b.length ≤ c := by omega
  obtain ⟨cf, ct, ca, cA, cc, ck⟩ := cu
  obtain ⟨zf, zt, za, zA, zc, zk⟩ := ag
  unfold cutk
  dsimp only
  obtain ⟨fz, hfz, hfz4⟩ := mod_nat zf 40 40 rfl (by decide)
  obtain ⟨W0, hW0⟩ : ∃ W0, ((w.alloc (.cells #[.int .i64 cf, .int .i64 ct, .int .i64 ca, .slice cA ck.length cc] 43)).alloc (.cells #[.int .i64 zf, .int .i64 zt, .int .i64 za, .slice zA zk.length zc] 43)) = W0 := ⟨_, rfl⟩
  have hsz : W0.heap.size = w.heap.size + 2 := by rw [← hW0]; simp
  have hb0 : Below w.heap.size w W0 := by rw [← hW0]; exact ((Below.refl _ _).alloc (Nat.le_refl _) _).alloc (by simp) _
  have hx0 : W0.heap[w.heap.size]? = some (.cells #[.int .i64 cf, .int .i64 ct, .int .i64 ca, .slice cA ck.length cc] 43 (0, 0)) := by rw [← hW0]; exact blk_alloc (heap_alloc_new w _)
  have hx1 : W0.heap[w.heap.size + 1]? = some (.cells #[.int .i64 zf, .int .i64 zt, .int .i64 za, .slice zA zk.length zc] 43 (0, 0)) := by
    rw [← hW0]
    have := heap_alloc_new (w.alloc (.cells #[.int .i64 cf, .int .i64 ct, .int .i64 ca, .slice cA ck.length cc] 43)) (.cells #[.int .i64 zf, .int .i64 zt, .int .i64 za, .slice zA zk.length zc] 43)
    rw [show (w.alloc (.cells #[.int .i64 cf, .int .i64 ct, .int .i64 ca, .slice cA ck.length cc] 43)).heap.size = w.heap.size + 1 by simp] at this
    exact this
  have HM := Lib.hid (made_any 60 A c b W0 (by decide) (by decide) (hR1.below hb0) hA hbc (by omega) (hR1.below hb0).old)
  rw [← hq2] at HM
  obtain ⟨hfe, hfl⟩ := format_new 60 (by decide) (by decide) b
  have HFl := Lib.hid hfl
  have HLs := Lib.hid hL
  have HI := Lib.hid hI
  have HAg := Lib.hid hag
  have HCu := Lib.hid hcu
  have HAw := Lib.hid (fun w2 => jawake_any w2)
  have HSz := Lib.hid hsz
  obtain ⟨R, hR⟩ : ∃ R, RL.format 60 b = R := ⟨_, rfl⟩
  rw [hR] at HM HFl
  obtain ⟨e0, x0⟩ := R
  dsimp only at HM HFl
  obtain ⟨B, hB⟩ : ∃ B, B = W0.heap.size := ⟨_, rfl⟩
  have HB := Lib.hid hB
  rw [← hB] at HM
  have HX := Lib.hid (⟨hb0, hx0, hx1⟩ : _ ∧ _ ∧ _)
  have HW0 := Lib.hid hW0
  clear hr hL hI hR1 hb hq2 hfe hfl hR hB hag hcu hb0 hx0 hx1 hsz hW0
  go_enter Try.func8, Try.ntmps8
  go_wp2_with fail
  rw [HW0.out]
  refine HM.out.mono ?_
  rintro e w1 ⟨pv, rfl, hb1, h1⟩
  rcases h1 with ⟨_, rfl⟩ | ⟨h0, p, g, k, m, c1, r, rfl, hP⟩
  · clear HM HFl HLs HI
    go_wp2_with (go_at_call 13; refine (HAw.out _).mono ?_; rintro e w9 ⟨rfl, hb9⟩)
    go_returns
    have hwB : w.heap.size ≤ B := by have := HB.out; have := HSz.out; omega
    have hb01 : Below w.heap.size w w1 := HX.out.1.trans (hb1.mono hwB)
    exact ⟨rfl, hb01.trans (hb9.mono hb01.size)⟩
  · have hAl : Alike 1 60 (formatLg (fresh 60) b) x0 := by
      obtain ⟨f1, f2, f3, f4⟩ := HFl.out h0
      exact ⟨f1, f3, f2, f4⟩
    have hb1' : Below B W0 w1 := hb1
    have H1 := Lib.hid (⟨_, _, hP, hAl, hb1'⟩ : ∃ L x, PairS B w1 p g k m c1 r L x ∧ Alike 1 60 L x ∧ Below B W0 w1)
    clear HM HFl hP hAl hb1 h0
    go_wp2_with fail
    go_loopg [38] ls.length (fun rr i wr => ∃ j : Nat, j + rr = ls.length ∧ i = .int .i64 j ∧ ∃ L x, PairS B wr p g k m c1 r L x ∧ Alike (1 + min j 30) 60 L x ∧ Below B W0 wr)
    case atStart => exact ⟨0, by omega, rfl, H1.out⟩
    case round =>
      clear H1
      obtain ⟨j, hj, rfl, L, x, hP, ha, hbw⟩ := hrel
      have hwB : w.heap.size ≤ B := by have := HB.out; have := HSz.out; omega
      have hBw : B ≤ wr.heap.size := by have := HB.out; have := hbw.size; omega
      have hbww : Below w.heap.size w wr := HX.out.1.trans (hbw.mono hwB)
      by_cases hjl : j < ls.length
      · obtain ⟨p0, rfl, hcell⟩ := flat_get (f := dok) (n := 2) (fun _ => rfl) (by decide) (HLs.out.below hbww) j hjl
        have hk := HI.out _ (List.getElem_mem hjl)
        generalize ls[j] = kx at hcell hk
        unfold dok at hcell
        have HC := Lib.hid hcell
        have HK := Lib.hid hk
        have HP := Lib.hid hP
        have HA := Lib.hid ha
        have HBw := Lib.hid (⟨hbw, hbww, hwB, hBw⟩ : _ ∧ _ ∧ _ ∧ _)
        clear hcell hk hP ha hbw hbww hwB hBw
        have hj1 : decide ((j : Int) < (ls.length : Int)) = true := decide_eq_true (by omega)
        have hj2 : (j : Int) < (ls.length : Int) := by omega
        have hj0 : (0 : Int) ≤ (j : Int) := by omega
        go_upto_region 7 with (refine wpList_load_any rfl 48 (.tmp 41) rfl _ rfl _ _ HC.out rfl rfl info_do ?_)
        have hb5 : Below wr.heap.size wr (wr.alloc (.cells #[.int .i64 kx.op, .slice kx.A kx.b.length kx.c] 48)) := (Below.refl _ _).alloc (Nat.le_refl _) _
        have hy0 : (wr.alloc (.cells #[.int .i64 kx.op, .slice kx.A kx.b.length kx.c] 48)).cell? ⟨wr.heap.size, 0, none⟩ = some (.int .i64 kx.op) := by go_cell
        have hy1 : (wr.alloc (.cells #[.int .i64 kx.op, .slice kx.A kx.b.length kx.c] 48)).cell? ⟨wr.heap.size, 1, none⟩ = some (.slice kx.A kx.b.length kx.c) := by go_cell
        have HP5 := Lib.hid (HP.out.below hb5)
        have HB5 := Lib.hid (⟨HBw.out.1.trans (hb5.mono HBw.out.2.2.2), HBw.out.2.1.trans (hb5.mono HBw.out.2.1.size), HBw.out.2.2.1, Nat.le_trans HBw.out.2.2.2 hb5.size⟩ : Below B W0 (wr.alloc (.cells #[.int .i64 kx.op, .slice kx.A kx.b.length kx.c] 48)) ∧ Below w.heap.size w (wr.alloc (.cells #[.int .i64 kx.op, .slice kx.A kx.b.length kx.c] 48)) ∧ w.heap.size ≤ B ∧ B ≤ (wr.alloc (.cells #[.int .i64 kx.op, .slice kx.A kx.b.length kx.c] 48)).heap.size)
        generalize (wr.alloc (.cells #[.int .i64 kx.op, .slice kx.A kx.b.length kx.c] 48)) = W5 at *
        generalize wr.heap.size = N5 at *
        clear hb5 HC HP HBw
        by_cases h40 : j < 30
        · have e40 : decide ((j : Int) < 30) = true := decide_eq_true (by omega)
          have HSt := Lib.hid (step_do2 B p g k m c1 r (1 + min j 30) 60 L x kx w W5 HK.out HB5.out.2.2.1 HB5.out.2.2.2 HB5.out.2.1 HP5.out HA.out (by omega))
          go_wp2_with fail
          refine HSt.out.mono ?_
          rintro e w6 ⟨rfl, L', x', hP6, hA6, hb6⟩
          have H6 := Lib.hid (⟨hP6, hA6, hb6⟩ : _ ∧ _ ∧ _)
          clear hP6 hA6 hb6 HSt
          go_wp2_with fail
          go_roundg (ls.length - (j + 1))
          case measure => omega
          case rel =>
            obtain ⟨hP6, hA6, hb6⟩ := H6.out
            exact ⟨j + 1, by omega, by go_num, L', x', hP6, hA6.mono (by omega), HB5.out.1.trans hb6⟩
        · have e40 : decide ((j : Int) < 30) = false := decide_eq_false (by omega)
          go_wp2_with fail
          go_roundg (ls.length - (j + 1))
          case measure => omega
          case rel => exact ⟨j + 1, by omega, by go_num, L, x, HP5.out, HA.out.mono (by omega), HB5.out.1⟩
      · obtain rfl : j = ls.length := by omega
        have hj1 : decide ((ls.length : Int) < (ls.length : Int)) = false := decide_eq_false (by omega)
        obtain ⟨l, q1, qr, hP, hbl⟩ := hP
        have hBs : B = w.heap.size + 2 := by rw [HB.out]; exact HSz.out
        have ha2 : Alike 31 60 L x := ha.mono (by omega)
        have hPd0 : Pd B W0 wr p l g k m c1 r L.d := ⟨hP.blk, hP.log.dk, fun i hi => hbl i (by simp at hi ⊢; rcases hi with h | h | h <;> simp [h]), hbw, hBw⟩
        have hPd := hPd0.beside (Below.refl _ _).drew
        obtain ⟨hCl, kk, hk1, hk2, hh⟩ := ha2.inv.had (by decide) ck ct ca
        obtain ⟨rs', hrs'⟩ : ∃ rs', L.recs.take kk = rs' := ⟨_, rfl⟩
        rw [hrs'] at hh
        obtain ⟨d6, hd6⟩ : ∃ d6, L.d.crashed ck ct ca = d6 := ⟨_, rfl⟩
        rw [hd6] at hCl hh
        have HCr := Lib.hid (crash_any g k m c1 L.d cA cc ck ct ca wr.drew hPd.dk (HCu.out.ks.below (hbww.trans ((Below.refl wr.heap.size wr).drew.mono hbww.size))) (fun a e hne hm => by have h1 := lies_old HCu.out.ks (by simpa using hne) a e; have h2 := hPd.ge _ hm; omega) HCu.out.kl)
        rw [hd6] at HCr
        have HPd := Lib.hid hPd
        have HDn := Lib.hid (⟨hCl, hh⟩ : Clean 31 d6 L.hf L.ep L.sl ∧ d6.hasP = L.snap :: rs')
        have HWB := Lib.hid (⟨hwB, hBs⟩ : w.heap.size ≤ B ∧ B = w.heap.size + 2)
        have HC1 : Hid (∀ w2, Below B W0 w2 → w2.heap[w.heap.size]? = some (.cells #[.int .i64 cf, .int .i64 ct, .int .i64 ca, .slice cA ck.length cc] 43 (0, 0))) := fun w2 hb => (hb.block _ (by omega)).trans HX.out.2.1
        have HC2 : Hid (∀ w2, Below B W0 w2 → w2.heap[w.heap.size + 1]? = some (.cells #[.int .i64 zf, .int .i64 zt, .int .i64 za, .slice zA zk.length zc] 43 (0, 0))) := fun w2 hb => (hb.block _ (by omega)).trans HX.out.2.2
        have e0 := hPd.p0
        have hz1 := HC1.out _ hPd.below
        have e1 : wr.drew.cell? ⟨w.heap.size, 3, none⟩ = some (.slice cA ck.length cc) := blk_cell hz1
        have e2 : wr.drew.cell? ⟨w.heap.size, 1, none⟩ = some (.int .i64 ct) := blk_cell hz1
        have e3 : wr.drew.cell? ⟨w.heap.size, 2, none⟩ = some (.int .i64 ca) := blk_cell hz1
        have HKp : Hid (∀ w6, Only wr.drew w6 [g, k, m] → DkAt w6 g k m c1 d6 → w6.cell? ⟨p, 0, none⟩ = some (.pointer (some ⟨g, 0, none⟩)) ∧ w6.cell? ⟨w.heap.size, 3, none⟩ = some (.slice cA ck.length cc) ∧ w6.cell? ⟨w.heap.size, 1, none⟩ = some (.int .i64 ct) ∧ w6.cell? ⟨w.heap.size, 2, none⟩ = some (.int .i64 ca)) := fun w6 ho6 hd => by
          have h1 := HPd.out.step ho6 hd
          have b2 := HC1.out _ h1.below
          exact ⟨h1.p0, blk_cell b2, blk_cell b2, blk_cell b2⟩
        clear hP hbl ha ha2 hPd0 hPd hCl hh hd6 hbw hbww hBw hz1 hwB hBs hk1 hk2 hrs'
        go_wp2_with fail
        go_region_held3 (fun w' => w'.cell? ⟨p, 0, none⟩ = some (.pointer (some ⟨g, 0, none⟩)) ∧ w'.cell? ⟨w.heap.size, 3, none⟩ = some (.slice cA ck.length cc) ∧ w'.cell? ⟨w.heap.size, 1, none⟩ = some (.int .i64 ct) ∧ w'.cell? ⟨w.heap.size, 2, none⟩ = some (.int .i64 ca)) (first | exact ⟨e0, e1, e2, e3⟩ | exact e4) (first
          | (go_at_call 20; refine HCr.out.mono ?_; rintro e w6 ⟨rfl, hd6, ho6⟩; have e4 := HKp.out w6 ho6 hd6))
        have hPd6 := HPd.out.step ho6 hd6
        have q0 := hPd6.p0
        have HPd6 := Lib.hid hPd6
        clear e0 e1 e2 e3 HCr HKp hPd6 hd6 ho6 e4 HPd
        go_wp2_with fail
        refine (dclone_any g k m c1 d6 w6 HPd6.out.dk).mono ?_
        rintro e w7 ⟨g2, k2, m2, c2, rfl, hd7, gg2, gk2, gm2, hb7⟩
        obtain ⟨o1, o2, o3, o4, o5, o6, o7⟩ := open_clean HDn.out.1 (by decide) L.snap rs' HDn.out.2
        have HOp := Lib.hid (open_log g2 k2 m2 c2 d6 w7 hd7)
        rw [o1] at HOp
        obtain ⟨Lx, hLx⟩ : ∃ Lx, openLg d6 = Lx := ⟨_, rfl⟩
        rw [hLx] at HOp o2 o5 o6
        have HLx := Lib.hid (⟨o2.snapl, o2.recl, o2.few.1, o5, o6⟩ : Lx.snap.length ≤ 262144 ∧ (∀ y ∈ Lx.recs, y.length ≤ 262144) ∧ Lx.recs.length ≤ 1000000 ∧ Lx.snap = L.snap ∧ Lx.recs = rs')
        clear o1 o2 o3 o4 o5 o6 o7 hLx
        go_wp2_with fail
        refine HOp.out.mono ?_
        rintro e w8 ⟨pv, rfl, hd8, ho8, h8⟩
        rcases h8 with ⟨h8, _⟩ | ⟨_, x8, q8, rfl, hx8, hj8, _, hq8⟩
        · exact absurd rfl h8
        have hb68 : Below w6.heap.size w6 w8 := hb7.trans (ho8.below (B := w6.heap.size) (fun i hi => by simp at hi; omega) hb7.size)
        have hdr8 : Below w8.heap.size w8 w8.drew := (Below.refl _ _).drew
        have hPd8 := HPd6.out.beside (hb68.trans (hdr8.mono hb68.size))
        have hn8 : g2 ∉ [g, k, m] ∧ k2 ∉ [g, k, m] ∧ m2 ∉ [g, k, m] := by
          have h1 := HPd6.out.dk.lt
          refine ⟨?_, ?_, ?_⟩ <;> intro hm <;> simp at hm <;> omega
        have hjD := hj8.below hdr8
        have hfe : d6.fuseE = 0 := by unfold Dsk.fuseE; rw [HDn.out.1.alive]; rfl
        have HF := Lib.hid (fuse_any g k m c1 d6 fz w8.drew hPd8.dk (by omega) (by omega))
        rw [hfe] at HF
        have f0 := hPd8.p0
        have f1 : w8.drew.cell? ⟨w.heap.size + 1, 0, none⟩ = some (.int .i64 zf) := blk_cell (HC2.out _ hPd8.below)
        have hwz : IntKind.i64.wrap (fz : Int) = (fz : Int) := IntWalk.i64_in _ (by omega)
        have HPd8 := Lib.hid (⟨hPd8, hjD, hn8⟩ : _ ∧ _ ∧ _)
        have HKq : Hid (∀ w9, Only w8.drew w9 [g] → DkAt w9 g k m c1 (d6.fused fz) → w9.cell? ⟨p, 0, none⟩ = some (.pointer (some ⟨g, 0, none⟩)) ∧ w9.cell? ⟨w.heap.size + 1, 0, none⟩ = some (.int .i64 zf)) := fun w9 ho9 hd => by
          have h1 := HPd8.out.1.step (ho9.mono (by simp)) hd
          exact ⟨h1.p0, blk_cell (HC2.out _ h1.below)⟩
        clear hb68 hdr8 hPd8 hn8 hjD hfe hd7 hb7 hd8 ho8 hj8 hq8 HOp HPd6 q0
        go_wp2_with fail
        go_region_held3 (fun w' => w'.cell? ⟨p, 0, none⟩ = some (.pointer (some ⟨g, 0, none⟩)) ∧ w'.cell? ⟨w.heap.size + 1, 0, none⟩ = some (.int .i64 zf)) (first | exact ⟨f0, f1⟩ | exact f4) (first
          | (go_at_call 28; refine HF.out.mono ?_; rintro e w9 ⟨rfl, hd9, ho9⟩; have f4 := HKq.out w9 ho9 hd9))
        have hPd9 := HPd8.out.1.step (ho9.mono (by simp)) hd9
        have hj9 := HPd8.out.2.1.apartD HPd8.out.1.dk HPd8.out.2.2 (ho9.mono (by simp))
        have f0' := hPd9.p0
        have HPd9 := Lib.hid (⟨hPd9, hj9, HPd8.out.2.2⟩ : _ ∧ _ ∧ _)
        clear f0 f1 hwz HKq HF hPd9 hj9 hd9 ho9 f4 HPd8
        go_wp2_with fail
        refine (open_log g k m c1 (d6.fused fz) w9 HPd9.out.1.dk).mono ?_
        rintro e w10 ⟨pv10, rfl, hd10, ho10, -⟩
        have hPd10 := HPd9.out.1.step ho10 hd10
        have hj10 := HPd9.out.2.1.apartD HPd9.out.1.dk HPd9.out.2.2 ho10
        have hdr10 : Below w10.heap.size w10 w10.drew := (Below.refl _ _).drew
        have hPdD := hPd10.beside hdr10
        have hjD := hj10.below hdr10
        have hwB := HWB.out.1
        obtain ⟨hf', ep', sl', hCl', hh'⟩ := open_again HDn.out.1 (by decide) (fz : Int) (by omega) L.snap rs' HDn.out.2 zk zt za
        have HCr := Lib.hid (crash_any g k m c1 (openP (d6.fused fz)).d zA zc zk zt za w10.drew hPdD.dk (HAg.out.ks.below (HX.out.1.trans (hPdD.below.mono hwB))) (fun a e hne hm => by have h1 := lies_old HAg.out.ks (by simpa using hne) a e; have h2 := hPdD.ge _ hm; omega) HAg.out.kl)
        obtain ⟨d11, hd11e⟩ : ∃ d11, (openP (d6.fused fz)).d.crashed zk zt za = d11 := ⟨_, rfl⟩
        rw [hd11e] at HCr hCl' hh'
        have HDm := Lib.hid (⟨hCl', hh'⟩ : Clean 32 d11 hf' ep' sl' ∧ d11.hasP = L.snap :: rs')
        have g0 := hPdD.p0
        have hz2 := HC2.out _ hPdD.below
        have g1 : w10.drew.cell? ⟨w.heap.size + 1, 3, none⟩ = some (.slice zA zk.length zc) := blk_cell hz2
        have g2' : w10.drew.cell? ⟨w.heap.size + 1, 1, none⟩ = some (.int .i64 zt) := blk_cell hz2
        have g3 : w10.drew.cell? ⟨w.heap.size + 1, 2, none⟩ = some (.int .i64 za) := blk_cell hz2
        have HPdD := Lib.hid (⟨hPdD, hjD, HPd9.out.2.2⟩ : _ ∧ _ ∧ _)
        have HKp : Hid (∀ w6, Only w10.drew w6 [g, k, m] → DkAt w6 g k m c1 d11 → w6.cell? ⟨p, 0, none⟩ = some (.pointer (some ⟨g, 0, none⟩)) ∧ w6.cell? ⟨w.heap.size + 1, 3, none⟩ = some (.slice zA zk.length zc) ∧ w6.cell? ⟨w.heap.size + 1, 1, none⟩ = some (.int .i64 zt) ∧ w6.cell? ⟨w.heap.size + 1, 2, none⟩ = some (.int .i64 za)) := fun w6 ho6 hd => by
          have h1 := HPdD.out.1.step ho6 hd
          have b2 := HC2.out _ h1.below
          exact ⟨h1.p0, blk_cell b2, blk_cell b2, blk_cell b2⟩
        clear hPd10 hj10 hdr10 hPdD hjD hwB hCl' hh' hd11e hz2 hd10 ho10 HPd9 f0'
        go_wp2_with fail
        go_region_held3 (fun w' => w'.cell? ⟨p, 0, none⟩ = some (.pointer (some ⟨g, 0, none⟩)) ∧ w'.cell? ⟨w.heap.size + 1, 3, none⟩ = some (.slice zA zk.length zc) ∧ w'.cell? ⟨w.heap.size + 1, 1, none⟩ = some (.int .i64 zt) ∧ w'.cell? ⟨w.heap.size + 1, 2, none⟩ = some (.int .i64 za)) (first | exact ⟨g0, g1, g2', g3⟩ | exact g4) (first
          | (go_at_call 20; refine HCr.out.mono ?_; rintro e w11 ⟨rfl, hd11, ho11⟩; have g4 := HKp.out w11 ho11 hd11))
        have hPd11 := HPdD.out.1.step ho11 hd11
        have hj11 := HPdD.out.2.1.apartD HPdD.out.1.dk HPdD.out.2.2 ho11
        have g0' := hPd11.p0
        obtain ⟨o1, o2, o3, o4, o5, o6, o7⟩ := open_clean HDm.out.1 (by decide) L.snap rs' HDm.out.2
        have HOp := Lib.hid (open_log g k m c1 d11 w11 hPd11.dk)
        rw [o1] at HOp
        obtain ⟨Ly, hLy⟩ : ∃ Ly, openLg d11 = Ly := ⟨_, rfl⟩
        rw [hLy] at HOp o2 o5 o6
        have HLy := Lib.hid (⟨o2.snapl, o2.recl, o2.few.1, o5, o6⟩ : Ly.snap.length ≤ 262144 ∧ (∀ y ∈ Ly.recs, y.length ≤ 262144) ∧ Ly.recs.length ≤ 1000000 ∧ Ly.snap = L.snap ∧ Ly.recs = rs')
        have HPd11 := Lib.hid (⟨hPd11, hj11, HPdD.out.2.2⟩ : _ ∧ _ ∧ _)
        clear o1 o2 o3 o4 o5 o6 o7 hLy hPd11 hj11 g0 g1 g2' g3 HCr HKp hd11 ho11 g4 HPdD
        go_wp2_with fail
        refine HOp.out.mono ?_
        rintro e w12 ⟨pv, rfl, hd12, ho12, h12⟩
        rcases h12 with ⟨h12, _⟩ | ⟨_, y, qy, rfl, hy, hjy, _, hqy⟩
        · exact absurd rfl h12
        have hPd12 := HPd11.out.1.step ho12 hd12
        have hjx := HPd11.out.2.1.apartD HPd11.out.1.dk HPd11.out.2.2 ho12
        obtain ⟨y1, y2, y3, y4, y5⟩ := HLy.out
        obtain ⟨x1, x2, x3, x4, x5⟩ := HLx.out
        have HSx := Lib.hid (snapshot_any x8 g2 k2 m2 c2 q8 Lx w12 hjx (by omega))
        have HSy := Lib.hid (fun w8 (hb : Below w12.heap.size w12 w8) => snapshot_any y g k m c1 qy Ly w8 (hjy.below hb) (by omega))
        have HRx := Lib.hid (fun w8 (hb : Below w12.heap.size w12 w8) => records_any x8 g2 k2 m2 c2 q8 Lx w8 (hjx.below hb) (fun z hz => by have := x2 z hz; omega) x3)
        have HRy := Lib.hid (fun w8 (hb : Below w12.heap.size w12 w8) => records_any y g k m c1 qy Ly w8 (hjy.below hb) (fun z hz => by have := y2 z hz; omega) y3)
        rw [x4] at HSx
        rw [y4] at HSy
        rw [x5] at HRx
        rw [y5] at HRy
        have hnr : rs'.length ≤ 1000000 := by rw [← x5]; exact x3
        have HEnd := Lib.hid (HX.out.1.trans (hPd12.below.mono HWB.out.1))
        clear hPd12 hjx hjy hd12 ho12 hqy hy HOp x1 x2 x3 x4 x5 y1 y2 y3 y4 y5 HPd11 g0'
        go_wp2_with fail
        refine HSx.out.mono ?_
        rintro e w13 ⟨v13, rfl, ho13, hb13⟩
        obtain ⟨A13, c13, rfl, -⟩ := OB.form ho13
        have HB13 := Lib.hid hb13
        have HO13 := Lib.hid (RB.of_own ho13)
        clear ho13 hb13
        go_wp2_with fail
        refine (HSy.out w13 HB13.out).mono ?_
        rintro e w14 ⟨v14, rfl, ho14, hb14⟩
        obtain ⟨A14, c14, rfl, -⟩ := OB.form ho14
        have HEq := Lib.hid (equal_any A13 A14 c13 c14 L.snap L.snap w14 (Lies.below HO13.out hb14) (RB.of_own ho14))
        rw [beq_self_eq_true] at HEq
        have HB14 := Lib.hid (HB13.out.trans (hb14.mono HB13.out.size))
        clear ho14 hb14 HO13
        go_wp2_with fail
        refine HEq.out.mono ?_
        rintro e w15 ⟨rfl, rfl⟩
        go_wp2_with fail
        refine (HRx.out w14 HB14.out).mono ?_
        rintro e w16 ⟨v16, r16, rfl, hw16, ho16, hq16, hb16⟩
        have hR16 : RecsAt w16 v16 r16 := ⟨RowFrom.of_own hw16, fun z hz => OB.mono (ho16 z hz) (Nat.zero_le _)⟩
        have HR16 := Lib.hid (⟨hR16, hq16⟩ : _ ∧ _)
        have HB16 := Lib.hid (HB14.out.trans (hb16.mono HB14.out.size))
        clear hw16 ho16 hq16 hb16 hR16
        go_wp2_with fail
        refine (HRy.out w16 HB16.out).mono ?_
        rintro e w17 ⟨v17, r17, rfl, hw17, ho17, hq17, hb17⟩
        have hR17 : RecsAt w17 v17 r17 := ⟨RowFrom.of_own hw17, fun z hz => OB.mono (ho17 z hz) (Nat.zero_le _)⟩
        have hsm := same_any v16 v17 r16 r17 w17 (HR16.out.1.below hb17) hR17 (by have := congrArg List.length HR16.out.2; rw [List.length_map] at this; omega) (by have := congrArg List.length hq17; rw [List.length_map] at this; omega)
        rw [HR16.out.2, hq17, decide_eq_true rfl] at hsm
        have HSm := Lib.hid hsm
        have HB17 := Lib.hid (HB16.out.trans (hb17.mono HB16.out.size))
        clear hw17 ho17 hq17 hb17 hR17 hsm
        go_wp2_with (first
          | (go_at_call 16; refine HSm.out.mono ?_; rintro e w18 ⟨rfl, hb18⟩)
          | (go_at_call 13; refine (HAw.out _).mono ?_; rintro e w19 ⟨rfl, hb19⟩))
        go_returns
        exact ⟨rfl, HEnd.out.trans ((HB17.out.trans ((hb18.trans (hb19.mono hb18.size)).mono HB17.out.size)).mono HEnd.out.size)⟩
end Go.Proofs.Ytjfpanamkkdebaa
