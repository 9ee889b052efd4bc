/- PagesLasts: the walk. -/
import Derived.Test.YtjfjeajbekhmdaaPgZ
import Derived.Test.YtjfjeajbekhmdaaPgO
import Derived.Test.YtjfjeajbekhmdaaPhA
import Derived.Test.YtjfjeajbekhmdaaPgK
import Derived.Deep.Cut
import Derived.Deep.WholeRow
import Derived.Deep.MidRow
namespace Go.Proofs.Ytjfjeajbekhmdaa
open Go.RowKit Go.Maps
set_option linter.unusedVariables false
set_option linter.unusedSimpArgs false
theorem lies_old {w : World} {A : Option Addr} {vs : List Value} (h : Lies w A vs) (hv : vs ≠ []) : ∀ p, A = some p → p.block < w.heap.size := by
  intro p hp
  match vs, hv with
  | v :: vs, _ =>
    obtain ⟨a, ha, hc⟩ := h 0 v rfl
    rw [hp] at ha
    injection ha with ha
    subst ha
    have := World.block_lt_of_cell? w _ hc
    simpa [Addr.add] using this
/-- One act, from a world that came behind the one where it lies. -/
theorem step_any (G K M C g a b c x y z : Nat) (d d2 : Dsk) (k : Laid) (w wr : World) (h : Two wr G K M C g a b c x y z d d2) (hk : k.In w) (hb : Below w.heap.size w wr) (hg : ∀ i ∈ [G, K, M, g, a, b, c], w.heap.size ≤ i) :
    Calls Try.prog 11 #[.pointer (some ⟨G, 0, none⟩), .pointer (some ⟨g, 0, none⟩), .agg #[.int .i64 k.k.op, .int .i64 k.k.i, .int .i64 k.k.n, .slice k.A k.k.b.length k.cc, .slice k.B k.k.keep.length k.kc]] wr fun e w' => ∃ v, e = .returned (.bool v) ∧ (d = d2 → v = true) ∧ Two w' G K M C g a b c x y z (d.did k.k) (d2.did k.k) ∧ Below w.heap.size w w' := by
  refine (does_any G K M C g a b c x y z d d2 k.k k.A k.B k.cc k.kc wr h (hk.rb.below hb) hk.cc hk.bl (fun p hp h0 hm => ?_) (hk.ks.below hb) hk.kl (fun p hp h0 hm => ?_) hk.n1 hk.n0).mono ?_
  · have h1 := lies_old hk.rb (by simpa using h0) p hp
    have h2 := hg _ hm
    omega
  · have h1 := lies_old hk.ks (by simpa using h0) p hp
    have h2 := hg _ hm
    omega
  · rintro e w' ⟨⟨v, he, hv⟩, hT, ho⟩
    exact ⟨v, he, hv, hT, hb.trans (ho.below hg hb.size)⟩
theorem laid_at {w : World} {A : Option Addr} {l : List Laid} (h : Lies w A (l.flatMap dk)) (j : Nat) (hj : j < l.length) : ∃ a, A = some a ∧ ∀ k v, (dk l[j])[k]? = some v → w.cell? ((a.add (j * 5)).add k) = some v := by
  have h0 : (l.flatMap dk)[j * 5 + 0]? = some (.int .i64 l[j].k.op) := by rw [dkflat_at l j 0 hj (by decide)]; rfl
  obtain ⟨a, rfl, _⟩ := h _ _ h0
  refine ⟨a, rfl, fun k v hk => ?_⟩
  have hk2 : k < 5 := (List.getElem?_eq_some_iff.1 hk).1
  rw [← dkflat_at l j k hj hk2] at hk
  obtain ⟨a', e, hc⟩ := h _ _ hk
  cases e
  rw [Addr.add_add]
  exact hc
/-- A row or a struct out of memory, at any address. -/
theorem wpList_load_any {P : Program} {ops : Array Oper} {rest : List Oper} {op : Oper} {a : Act} {w : World} {Q : Exit → Act → World → Prop} (hgd : op.guard = none) (ty : TypeId) (x : Operand) (ho : op.op = .load ty x)
    (b : Addr) (hx : a.eval x = .pointer (some b)) (cs : List Value) (d : TypeDesc) (hc : ∀ j v, cs[j]? = some v → w.cell? (b.add j) = some v)
    (hu : P.underlying ty = some d) (hd : d.isRow = true) (hi : (P.info? ty).map (·.size) = some cs.length)
    (h : wpList P ops Q rest (a.put op.dst (.agg cs.toArray)) w) : wpList P ops Q (op :: rest) a w := by
  refine wpList_plain hgd fun K hK => ?_
  have hl : (loadCells b cs.length).run P w = .ok cs.toArray w := run_loadCells_list (P := P) w b cs hc
  have hv : (loadVar ty b).run P w = .ok (.agg cs.toArray) w := by
    cases hq : P.info? ty with
    | none => simp [hq] at hi
    | some i =>
      have hs : i.size = cs.length := by simpa [hq] using hi
      have hagg : (isAgg ty).run P w = .ok true w := by
        unfold isAgg
        rw [Sem.run_bind, run_underlying hu w]
        cases d <;> simp_all
      simp [loadVar, Sem.run_bind, hagg, sizeOf, typeInfo, hq, hs, hl]
  unfold Oper.wp execOp
  simp only [ho, hx, Instr.loadAt, Instr.sureAddr, Sem.run_bind, Sem.run_pure, Result.andThen_ok, hv]
  exact hK _ _ h
theorem info_act : (Try.prog.info? 35).map (·.size) = some 5 := by kernel_rfl
set_option maxRecDepth 100000 in
set_option maxHeartbeats 3200000 in
theorem lasts_walk (A : Option Addr) (cb : Nat) (bs : List UInt8) (L : Option Addr) (cl : Nat) (ls : List Laid) (w : World) (hr : RB w A bs) (hA : A = none → cb = 0) (hcb : bs.length ≤ cb) (hm : bs.length ≤ 140737488351232)
    (hL : Lies w L (ls.flatMap dk)) (hI : ∀ x ∈ ls, x.In w) (hl : ls.length ≤ 9223372036854775807) :
    Calls Try.prog 3 #[.slice A bs.length cb, .slice L ls.length cl] w fun e w' => e = .returned (.bool true) ∧ Below w.heap.size w w' := by
  obtain ⟨q, hq1, hq2⟩ : ∃ q : Nat, (if (128 : Int) < (bs.length : Int) then 128 else (bs.length : Int)) = (q : Int) ∧ q = (bs.take 128).length := ⟨(bs.take 128).length, by rw [List.length_take]; split <;> omega, rfl⟩
  have hq0 : (0 : Int) ≤ (q : Int) := by omega
  have hq3 : (q : Int) ≤ (cb : Int) := by rw [List.length_take] at hq2; omega
  have hq128 : q ≤ 128 := by rw [List.length_take] at hq2; omega
  have hr2 := hr.take 128
  have hold := fun h0 => lies_old hr2 h0
  obtain ⟨b2, hb2⟩ : ∃ b2, bs.take 128 = b2 := ⟨_, rfl⟩
  rw [hb2] at hq2 hr2 hold
  have hbl : b2.length ≤ 128 := by omega
  clear hb2 hr
  have HN := Lib.hid (new_any 8 w (by decide) (by decide))
  have HM := Lib.hid (fun w2 => rnew_any 8 w2 (by decide) (by decide))
  have HB2 := Lib.hid hr2
  have HLs := Lib.hid hL
  have HW := Lib.hid (fun G K M w2 hd hr2 hA2 => write_any G K M 8 (fresh 8) 3 A cb b2 w2 hd hr2 hA2 (by omega))
  have HP := Lib.hid (fun w2 hr2 => page_any A cb b2 w2 hr2 hbl)
  rw [safe_writeE hbl, ← hq2] at HW
  rw [← hq2] at HP
  have hqL := Lib.hid hq2
  have hold2 := Lib.hid hold
  clear hr2 hL hq2 hold
  go_enter Try.func3, Try.ntmps3
  go_wp2_with (first
    | (go_at_call 7; refine HN.out.mono ?_; rintro e w1 ⟨G, K, M, rfl, hd1, hb1, g1, g2, g3⟩)
    | (go_at_call 8; refine (HW.out G K M _ hd1 (Lies.below HB2.out hb1) (fun p hp h0 e => by have := hold2.out (by simpa using h0) p hp; omega)).mono ?_; rintro e w2 ⟨rfl, hd2, ho2⟩
       have HSy := Lib.hid (sync_any G K M 8 _ w2 hd2)
       rw [safe_actE] at HSy)
    | (go_at_call 9; refine HSy.out.mono ?_; rintro e w3 ⟨rfl, hd3, ho3⟩)
    | (go_at_call 10; refine (HM.out _).mono ?_; rintro e w4 ⟨vN, vH, vI, rfl, hm4, hb4⟩))
  clear HN HM HW HSy hd1 hd2
  obtain ⟨a, b, c, x, y, z, hf4, la, lb, lc⟩ := hm4.at (by decide)
  clear hm4
  have hz3 := hd3.lt
  have hs1 := hb1.size
  have hs2 := ho2.size
  have hs3 := ho3.size
  have hb4' := hb4.mono (Nat.le_trans hs1 (Nat.le_trans hs2 hs3))
  have hb04 : Below w.heap.size w w4 := (hb1.trans (((ho2.mono (fun i h => by simp at h ⊢; omega)).trans ho3).below (fun i h => by simp at h; omega) hb1.size)).trans hb4'
  obtain ⟨g, hg⟩ : ∃ g, g = w3.heap.size := ⟨_, rfl⟩
  rw [← hg] at hf4 la lb lc hz3 ⊢
  have hblk : ∀ i ∈ [G, K, M, g, a, b, c], w.heap.size ≤ i := fun i h => by simp at h; omega
  have hT4 : Two w4 G K M 8 g a b c x y z ((fresh 8).wrote 3 b2).synced (fresh 8) := ⟨hd3.below hb4, hf4, fresh_ok (by decide) (by decide), fun h => by simp at h; omega, fun h => by simp at h; omega, fun h => by simp at h; omega⟩
  have hS4 := safe_start hbl
  have HBK := Lib.hid hblk
  clear hd3 hb4 hf4 ho2 ho3 hb1 hb4' hs1 hs2 hs3 la lb lc hz3 g1 g2 g3 hblk
  go_loopg [37] ls.length (fun r i wr => ∃ (j : Nat) (d d2 : Dsk), j + r = ls.length ∧ i = .int .i64 j ∧ Two wr G K M 8 g a b c x y z d d2 ∧ Safe d b2 ∧ Below w.heap.size w wr)
  case atStart => exact ⟨0, _, _, by omega, rfl, hT4, hS4, hb04⟩
  case round =>
    clear hT4 hS4 hb04 hg
    obtain ⟨j, d, d2, hj, rfl, hT, hS, hb⟩ := hrel
    by_cases hjl : j < ls.length
    · obtain ⟨p, rfl, hcell⟩ := laid_at (HLs.out.below hb) j hjl
      have hk := hI _ (List.getElem_mem hjl)
      generalize ls[j] = kx at hcell hk
      unfold dk at hcell
      have HC := Lib.hid hcell
      clear hcell
      go_upto_region 9 with (refine wpList_load_any rfl 35 (.tmp 40) rfl _ rfl _ _ HC.out rfl rfl info_act ?_)
      have hb5 : Below wr.heap.size wr (wr.alloc (.cells #[.int .i64 kx.k.op, .int .i64 kx.k.i, .int .i64 kx.k.n, .slice kx.A kx.k.b.length kx.cc, .slice kx.B kx.k.keep.length kx.kc] 35)) := (Below.refl _ _).alloc (Nat.le_refl _) _
      have hx0 : (wr.alloc (.cells #[.int .i64 kx.k.op, .int .i64 kx.k.i, .int .i64 kx.k.n, .slice kx.A kx.k.b.length kx.cc, .slice kx.B kx.k.keep.length kx.kc] 35)).cell? ⟨wr.heap.size, 0, none⟩ = some (.int .i64 kx.k.op) := by go_cell
      have hx1 : (wr.alloc (.cells #[.int .i64 kx.k.op, .int .i64 kx.k.i, .int .i64 kx.k.n, .slice kx.A kx.k.b.length kx.cc, .slice kx.B kx.k.keep.length kx.kc] 35)).cell? ⟨wr.heap.size, 1, none⟩ = some (.int .i64 kx.k.i) := by go_cell
      have hx2 : (wr.alloc (.cells #[.int .i64 kx.k.op, .int .i64 kx.k.i, .int .i64 kx.k.n, .slice kx.A kx.k.b.length kx.cc, .slice kx.B kx.k.keep.length kx.kc] 35)).cell? ⟨wr.heap.size, 2, none⟩ = some (.int .i64 kx.k.n) := by go_cell
      have hx3 : (wr.alloc (.cells #[.int .i64 kx.k.op, .int .i64 kx.k.i, .int .i64 kx.k.n, .slice kx.A kx.k.b.length kx.cc, .slice kx.B kx.k.keep.length kx.kc] 35)).cell? ⟨wr.heap.size, 3, none⟩ = some (.slice kx.A kx.k.b.length kx.cc) := by go_cell
      have hx4 : (wr.alloc (.cells #[.int .i64 kx.k.op, .int .i64 kx.k.i, .int .i64 kx.k.n, .slice kx.A kx.k.b.length kx.cc, .slice kx.B kx.k.keep.length kx.kc] 35)).cell? ⟨wr.heap.size, 4, none⟩ = some (.slice kx.B kx.k.keep.length kx.kc) := by go_cell
      have hT5 := hT.below hb5
      have hb05 := hb.trans (hb5.mono hb.size)
      generalize (wr.alloc (.cells #[.int .i64 kx.k.op, .int .i64 kx.k.i, .int .i64 kx.k.n, .slice kx.A kx.k.b.length kx.cc, .slice kx.B kx.k.keep.length kx.kc] 35)) = W5 at hb5 hx0 hx1 hx2 hx3 hx4 hT5 hb05 ⊢
      have HSt := Lib.hid (step_any G K M 8 g a b c x y z d d2 kx w W5 hT5 hk hb05 HBK.out)
      generalize wr.heap.size = N5 at *
      clear hT hb hb5 HC
      by_cases h60 : j < 60
      · have e60 : decide ((j : Int) < 60) = true := decide_eq_true (by omega)
        by_cases h3 : kx.k.i = 3
        · rw [h3] at HSt hx1
          by_cases h2 : 2 < kx.k.kind
          · have e2 : decide ((IntKind.u64.wrap kx.k.op).tmod 6 > 2) = true := decide_eq_true h2
            have e2' : decide (2 < (IntKind.u64.wrap kx.k.op).tmod 6) = true := decide_eq_true h2
            have hS5 := hS.did (k := kx.k) (Or.inr h2)
            clear h3 h2 hT5
            go_wp2_with (go_at_call 11; refine HSt.out.mono ?_; rintro e w6 ⟨v, rfl, _, hT6, hb6⟩)
            go_roundg (ls.length - (j + 1))
            case measure => omega
            case rel => exact ⟨j + 1, _, _, by omega, by go_num, hT6, hS5, hb6⟩
          · have e2 : decide ((IntKind.u64.wrap kx.k.op).tmod 6 > 2) = false := decide_eq_false h2
            have e2' : decide (2 < (IntKind.u64.wrap kx.k.op).tmod 6) = false := decide_eq_false h2
            clear h3 h2 HSt
            go_wp2_with fail
            go_roundg (ls.length - (j + 1))
            case measure => omega
            case rel => exact ⟨j + 1, _, _, by omega, by go_num, hT5, hS, hb05⟩
        · have e3 : decide (kx.k.i = 3) = false := decide_eq_false h3
          have e4 : (kx.k.i == 3) = false := by rw [beq_eq_false_iff_ne]; exact h3
          have e5 : (kx.k.i != 3) = true := by simp [h3]
          have hS5 := hS.did (k := kx.k) (Or.inl h3)
          clear hT5
          go_wp2_with (go_at_call 11; refine HSt.out.mono ?_; rintro e w6 ⟨v, rfl, _, hT6, hb6⟩)
          go_roundg (ls.length - (j + 1))
          case measure => omega
          case rel => exact ⟨j + 1, _, _, by omega, by go_num, hT6, hS5, hb6⟩
      · have e60 : decide ((j : Int) < 60) = false := decide_eq_false (by omega)
        clear HSt
        go_wp2_with fail
        go_roundg (ls.length - (j + 1))
        case measure => omega
        case rel => exact ⟨j + 1, _, _, by omega, by go_num, hT5, hS, hb05⟩
    · obtain rfl : j = ls.length := by omega
      have HCr := Lib.hid (crash_any G K M 8 d none 0 [] 3 5 wr hT.ours (nil_lies _) (fun a ha _ => by cases ha) (by decide))
      have hrE := hS.readE [] 3 5
      have hSc := hS.crashed [] 3 5
      have hnw := hSc.read hbl
      generalize d.crashed [] 3 5 = d9 at HCr hrE hSc hnw
      have hBo := fun i h => HBK.out i (show i ∈ [G, K, M, g, a, b, c] from h)
      clear hT
      go_wp2_with (first
        | (go_at_call 12; refine HCr.out.mono ?_; rintro e w7 ⟨rfl, hd7, ho7⟩
           have HRd := Lib.hid (read_any G K M 8 d9 3 w7 hd7)
           rw [hrE, if_pos rfl, show (3 : Int).toNat = 3 from rfl, hnw] at HRd)
        | (go_at_call 13; refine HRd.out.mono ?_; rintro e w8 ⟨v8, rfl, hv8, hb8⟩
           obtain ⟨A8, c8, rfl, hl8, hA8⟩ := hv8.form))
      have hall : Below w.heap.size w w8 := (hb.trans (ho7.below (B := w.heap.size) (fun i h => hBo i (by simp at h ⊢; omega)) hb.size)).trans (hb8.mono (Nat.le_trans hb.size ho7.size))
      have hr8 := RB.of_own hv8
      have hP8 : RB w8.drew A b2 := Lies.below (Lies.below HB2.out hall) (Below.refl _ _).drew
      have kc := RB.str (P := Try.prog) (w := w8.drew) (src := 22) (dst := 9) Try.underlying22 Try.underlying5 Try.underlying9 hr8.drew (pad b2).length c8 rfl
      have HAw := Lib.hid (fun w2 => awake_any w2)
      have hP8' := Lib.hid hP8
      generalize (pad b2).length = n8 at *
      clear hv8 hl8 hA8 hd7 HRd HCr hS hSc hrE hnw hr8 hP8 hBo hq1 hj hjl ho7 hb8 hb
      go_region_law (first
        | (go_simp; go_at_call 14; refine (HP.out _ hP8'.out).mono ?_; rintro e w9 ⟨rfl, rfl⟩)
        | (go_simp; go_at_call 15; refine (HAw.out _).mono ?_; rintro e w9 ⟨rfl, hb9⟩))
      all_goals simp only [Act.put, List.getElem_toArray, List.getElem_cons_succ, List.getElem_cons_zero, List.setIfInBounds_toArray, List.set_cons_zero, List.set_cons_succ]
      all_goals go_wp2_with fail
      all_goals go_returns
      all_goals exact ⟨rfl, (hall.trans ((Below.refl _ _).drew)).trans (hb9.mono hall.size)⟩
end Go.Proofs.Ytjfjeajbekhmdaa
