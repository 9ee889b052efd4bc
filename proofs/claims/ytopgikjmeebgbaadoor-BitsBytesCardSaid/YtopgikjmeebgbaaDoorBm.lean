/- A set behind some deeds, and the document's. -/
import Derived.Test.YtopgikjmeebgbaaDoorBl
import Derived.Deep.MidRow
import Derived.Deep.WholeRow
namespace Go.Proofs.YtopgikjmeebgbaaDoor
open Go.RowKit
set_option linter.unusedVariables false
set_option linter.unusedSimpArgs false
/-- A row or a struct out of memory, at any address. -/
theorem wpList_load_any {P : Program} {ops : Array Oper} {rest : List Oper} {op : Oper} {a : Act} {w : World} {Q : Exit → Act → World → Prop} (hgd : op.guard = none) (ty : TypeId) (x : Operand) (ho : op.op = .load ty x)
    (b : Addr) (hx : a.eval x = .pointer (some b)) (cs : List Value) (d : TypeDesc) (hc : ∀ j v, cs[j]? = some v → w.cell? (b.add j) = some v)
    (hu : P.underlying ty = some d) (hd : d.isRow = true) (hi : (P.info? ty).map (·.size) = some cs.length)
    (h : wpList P ops Q rest (a.put op.dst (.agg cs.toArray)) w) : wpList P ops Q (op :: rest) a w := by
  refine wpList_plain hgd fun K hK => ?_
  have hl : (loadCells b cs.length).run P w = .ok cs.toArray w := run_loadCells_list (P := P) w b cs hc
  have hv : (loadVar ty b).run P w = .ok (.agg cs.toArray) w := by
    cases hq : P.info? ty with
    | none => simp [hq] at hi
    | some i =>
      have hs : i.size = cs.length := by simpa [hq] using hi
      have hagg : (isAgg ty).run P w = .ok true w := by
        unfold isAgg
        rw [Sem.run_bind, run_underlying hu w]
        cases d <;> simp_all
      simp [loadVar, Sem.run_bind, hagg, sizeOf, typeInfo, hq, hs, hl]
  unfold Oper.wp execOp
  simp only [ho, hx, Instr.loadAt, Instr.sureAddr, Sem.run_bind, Sem.run_pure, Result.andThen_ok, hv]
  exact hK _ _ h
/-- A deed's cells. -/
def dc (x : Int × Int) : List Value := [.int .i64 x.1, .int .i64 x.2]
theorem dflat_at : ∀ (l : List (Int × Int)) (j k : Nat) (hj : j < l.length), k < 2 → (l.flatMap dc)[j * 2 + k]? = (dc l[j])[k]?
  | [], _, _, hj, _ => by cases hj
  | h :: l, 0, k, _, hk => by
    have : (dc h).length = 2 := rfl
    rw [List.flatMap_cons, Nat.zero_mul, Nat.zero_add, List.getElem?_append_left (by omega)]; rfl
  | h :: l, j + 1, k, hj, hk => by
    have : (dc h).length = 2 := rfl
    rw [List.flatMap_cons, List.getElem?_append_right (by omega), this, show (j + 1) * 2 + k - 2 = j * 2 + k by omega]
    exact dflat_at l j k (by simpa using hj) hk
theorem deed_at {w : World} {A : Option Addr} {l : List (Int × Int)} (h : Lies w A (l.flatMap dc)) (j : Nat) (hj : j < l.length) : ∃ a, A = some a ∧ ∀ k v, (dc l[j])[k]? = some v → w.cell? ((a.add (j * 2)).add k) = some v := by
  have h0 : (l.flatMap dc)[j * 2 + 0]? = some (.int .i64 l[j].1) := by rw [dflat_at l j 0 hj (by decide)]; rfl
  obtain ⟨a, rfl, _⟩ := h _ _ h0
  refine ⟨a, rfl, fun k v hk => ?_⟩
  have hk2 : k < 2 := (List.getElem?_eq_some_iff.1 hk).1
  rw [← dflat_at l j k hj hk2] at hk
  obtain ⟨a', e, hc⟩ := h _ _ hk
  cases e
  rw [Addr.add_add]
  exact hc
theorem info_do : (Tryd.prog.info? 64).map (·.size) = some 2 := by kernel_rfl
def upd (bs : List Bool) (i : Int) (b : Bool) : List Bool := if 0 ≤ i ∧ i < bs.length then bs.set i.toNat b else bs
theorem upd_length (bs : List Bool) (i : Int) (b : Bool) : (upd bs i b).length = bs.length := by unfold upd; split <;> simp
set_option maxHeartbeats 3200000 in
theorem made_any (n : Int) (A : Option Addr) (c : Nat) (l : List (Int × Int)) (w : World) (hr : Lies w A (l.flatMap dc)) (hA : A = none → c = 0) (hlc : l.length ≤ c) (hm : l.length ≤ 9223372036854775807) :
    Calls Tryd.prog 16 #[.int .i64 n, .slice A l.length c] w fun e w' => ∃ g W gr R bs, e = .returned (.tuple #[.pointer (some ⟨g, 0, none⟩), .pointer (some ⟨gr, 0, none⟩), .bool true]) ∧ Pair w' g W gr R bs ∧ bs.length ≤ 2000 ∧ w.heap.size ≤ W ∧ Below w.heap.size w w' := by
  have HR0 := Lib.hid hr
  clear hr
  obtain ⟨n2, hn2⟩ : ∃ n2, n2 = min n 2000 := ⟨_, rfl⟩
  have HN := Lib.hid (fun w => new_any n2 w)
  have HM := Lib.hid (fun w => rnew_any n2 w)
  have hcl : (List.replicate (clip n2) false).length ≤ 2000 := by rw [List.length_replicate]; unfold clip; omega
  generalize List.replicate (clip n2) false = bs0 at HN HM hcl
  go_enter Tryd.func16, Tryd.ntmps16
  by_cases hn : n ≤ 2000
  · obtain rfl : n2 = n := by omega
    clear hn2
    go_upto_region 3 with (first
      | (go_at_call 10; refine (HN.out _).mono ?_; rintro e w1 ⟨g, W, rfl, hS1, hW, hb1⟩)
      | (go_at_call 43; refine (HM.out _).mono ?_; rintro e w2 ⟨gr, R, rfl, hR2, hR, hb2⟩))
    all_goals
      have hg1 := hS1.glt
      have hP2 : Pair w2 g W gr R bs0 := ⟨hS1.below hb2, hR2, by omega⟩
      have hb02 := hb1.trans (hb2.mono hb1.size)
      clear hS1 hR2 hb1 hb2 hR hg1 HN HM
      go_wp2_with fail
      go_loopg [20] l.length (fun r i wr => ∃ (j : Nat) (bs : List Bool), j + r = l.length ∧ i = .int .i64 j ∧ Pair wr g W gr R bs ∧ bs.length ≤ 2000 ∧ Below w.heap.size w wr)
      case atStart => exact ⟨0, bs0, by omega, rfl, hP2, hcl, hb02⟩
      case round =>
        clear hP2 hcl hb02
        obtain ⟨j, bs, hj, rfl, hP, hbl, hbw⟩ := hrel
        by_cases hjl : j < l.length
        · obtain ⟨a, rfl, hcell⟩ := deed_at (HR0.out.below hbw) j hjl
          generalize l[j] = x at hcell
          obtain ⟨xo, xi⟩ := x
          have hcell := Lib.hid hcell
          unfold dc at hcell
          go_upto_region 6 with (refine wpList_load_any rfl 64 (.tmp 23) rfl _ rfl _ _ hcell.out rfl rfl info_do ?_)
          have hb5 : Below wr.heap.size wr (wr.alloc (.cells #[.int .i64 xo, .int .i64 xi] 64)) := (Below.refl _ _).alloc (Nat.le_refl _) _
          have hx0 : (wr.alloc (.cells #[.int .i64 xo, .int .i64 xi] 64)).cell? ⟨wr.heap.size, 0, none⟩ = some (.int .i64 xo) := by go_cell
          have hx1 : (wr.alloc (.cells #[.int .i64 xo, .int .i64 xi] 64)).cell? ⟨wr.heap.size, 1, none⟩ = some (.int .i64 xi) := by go_cell
          have hP5 := hP.below hb5
          have hb05 := hbw.trans (hb5.mono hbw.size)
          have hgs := hP.ref.glt
          have hls := hP.lt
          have hls1 := hP.set.lt
          have hls2 := hP.ref.lt
          generalize wr.alloc (.cells #[.int .i64 xo, .int .i64 xi] 64) = W5 at hb5 hx0 hx1 hP5 hb05
          obtain ⟨q, hq⟩ : ∃ q, q = wr.heap.size := ⟨_, rfl⟩
          rw [← hq] at hx0 hx1 hgs ⊢
          clear hcell hP hbw hb5 hq
          by_cases h200 : 200 ≤ j
          · have hd : decide ((200 : Int) ≤ (j : Int)) = true := decide_eq_true (by omega)
            go_wp2
            go_ret3
            exact ⟨_, _, _, _, _, rfl, hP5, hbl, hW, hb05⟩
          · have hd : decide ((200 : Int) ≤ (j : Int)) = false := decide_eq_false (by omega)
            have hx0d : W5.drew.cell? ⟨q, 0, none⟩ = some (.int .i64 xo) := hx0
            have hx1d : W5.drew.cell? ⟨q, 1, none⟩ = some (.int .i64 xi) := hx1
            have hS0 : SetAt W5.drew g W bs := hP5.set.below ((Below.refl _ _).drew)
            have hRf0 : RefAt W5.drew gr R bs := hP5.ref.below ((Below.refl _ _).drew)
            have hb0d := hb05.drew
            have HXtrue : Hid (∀ w', SetAt w' g W bs → Calls Tryd.prog 14 #[.pointer (some ⟨g, 0, none⟩), .int .i64 xi] w' fun e w'' => e = .returned (.bool (decide (0 ≤ xi ∧ xi < bs.length))) ∧ SetAt w'' g W (upd bs xi true) ∧ w'.grownBy w'' (some W)) := fun w' h => put_any g W bs xi w' h
            have HXfalse : Hid (∀ w', SetAt w' g W bs → Calls Tryd.prog 28 #[.pointer (some ⟨g, 0, none⟩), .int .i64 xi] w' fun e w'' => e = .returned (.bool (decide (0 ≤ xi ∧ xi < bs.length))) ∧ SetAt w'' g W (upd bs xi false) ∧ w'.grownBy w'' (some W)) := fun w' h => cut_any g W bs xi w' h
            have HYtrue : Hid (∀ w', RefAt w' gr R bs → Calls Tryd.prog 44 #[.pointer (some ⟨gr, 0, none⟩), .int .i64 xi, .bool true] w' fun e w'' => e = .returned (.bool (decide (0 ≤ xi ∧ xi < bs.length))) ∧ RefAt w'' gr R (upd bs xi true) ∧ w'.grownBy w'' (some R)) := fun w' h => rset_any gr R bs xi true w' h
            have HYfalse : Hid (∀ w', RefAt w' gr R bs → Calls Tryd.prog 44 #[.pointer (some ⟨gr, 0, none⟩), .int .i64 xi, .bool false] w' fun e w'' => e = .returned (.bool (decide (0 ≤ xi ∧ xi < bs.length))) ∧ RefAt w'' gr R (upd bs xi false) ∧ w'.grownBy w'' (some R)) := fun w' h => rset_any gr R bs xi false w' h
            generalize decide (0 ≤ xi ∧ xi < bs.length) = dd at HXtrue HXfalse HYtrue HYfalse
            clear hP5
            go_upto_region 9 with fail
            · clear HXfalse HYfalse
              have hlen : (upd bs xi true).length ≤ 2000 := by rw [upd_length]; exact hbl
              generalize upd bs xi true = bs2 at HXtrue HYtrue hlen
              go_region_law (first
                | (go_simp; go_at_call 14; refine (HXtrue.out _ hS0).mono ?_; rintro e wp ⟨rfl, hSp, hgp⟩; have hRp : RefAt wp gr R bs := hRf0.blocks (hgp.block _ hRf0.glt (by intro e; injection e; omega)) (hgp.block _ (Nat.lt_trans hRf0.lt hRf0.glt) (by intro e; injection e; omega)); have hcp := (hgp.cell hx1d (by intro e; injection e with e; have e2 : q = W := e; omega)); have hbp := hb0d.grown hgp hb0d.size (by intro k hk; injection hk with hk; omega))
                | (go_simp; go_at_call 14; refine (HXtrue.out _ hSq).mono ?_; rintro e wz ⟨rfl, hS2, hgz⟩; have hR2 : RefAt wz gr R bs2 := hRq.blocks (hgz.block _ hRq.glt (by intro e; injection e; omega)) (hgz.block _ (Nat.lt_trans hRq.lt hRq.glt) (by intro e; injection e; omega)); have hbz := hbq.grown hgz hbq.size (by intro k hk; injection hk with hk; omega))
                | (go_simp; go_at_call 44; refine (HYtrue.out _ hRf0).mono ?_; rintro e wq ⟨rfl, hRq, hgq⟩; have hSq : SetAt wq g W bs := hS0.blocks (hgq.block _ hS0.glt (by intro e; injection e; omega)) (hgq.block _ (Nat.lt_trans hS0.lt hS0.glt) (by intro e; injection e; omega)); have hcq := (hgq.cell hx1d (by intro e; injection e with e; have e2 : q = R := e; omega)); have hbq := hb0d.grown hgq hb0d.size (by intro k hk; injection hk with hk; omega))
                | (go_simp; go_at_call 44; refine (HYtrue.out _ hRp).mono ?_; rintro e wz ⟨rfl, hR2, hgz⟩; have hS2 : SetAt wz g W bs2 := hSp.blocks (hgz.block _ hSp.glt (by intro e; injection e; omega)) (hgz.block _ (Nat.lt_trans hSp.lt hSp.glt) (by intro e; injection e; omega)); have hbz := hbp.grown hgz hbp.size (by intro k hk; injection hk with hk; omega)))
              all_goals
                clear hx0d hx1d hx0 hx1
                go_wp2
                go_roundg (l.length - (j + 1))
                case measure => omega
                case rel => exact ⟨j + 1, bs2, by omega, by go_num, ⟨hS2, hR2, hls⟩, hlen, hbz⟩
            · clear HXtrue HYtrue
              have hlen : (upd bs xi false).length ≤ 2000 := by rw [upd_length]; exact hbl
              generalize upd bs xi false = bs2 at HXfalse HYfalse hlen
              go_region_law (first
                | (go_simp; go_at_call 28; refine (HXfalse.out _ hS0).mono ?_; rintro e wp ⟨rfl, hSp, hgp⟩; have hRp : RefAt wp gr R bs := hRf0.blocks (hgp.block _ hRf0.glt (by intro e; injection e; omega)) (hgp.block _ (Nat.lt_trans hRf0.lt hRf0.glt) (by intro e; injection e; omega)); have hcp := (hgp.cell hx1d (by intro e; injection e with e; have e2 : q = W := e; omega)); have hbp := hb0d.grown hgp hb0d.size (by intro k hk; injection hk with hk; omega))
                | (go_simp; go_at_call 28; refine (HXfalse.out _ hSq).mono ?_; rintro e wz ⟨rfl, hS2, hgz⟩; have hR2 : RefAt wz gr R bs2 := hRq.blocks (hgz.block _ hRq.glt (by intro e; injection e; omega)) (hgz.block _ (Nat.lt_trans hRq.lt hRq.glt) (by intro e; injection e; omega)); have hbz := hbq.grown hgz hbq.size (by intro k hk; injection hk with hk; omega))
                | (go_simp; go_at_call 44; refine (HYfalse.out _ hRf0).mono ?_; rintro e wq ⟨rfl, hRq, hgq⟩; have hSq : SetAt wq g W bs := hS0.blocks (hgq.block _ hS0.glt (by intro e; injection e; omega)) (hgq.block _ (Nat.lt_trans hS0.lt hS0.glt) (by intro e; injection e; omega)); have hcq := (hgq.cell hx1d (by intro e; injection e with e; have e2 : q = R := e; omega)); have hbq := hb0d.grown hgq hb0d.size (by intro k hk; injection hk with hk; omega))
                | (go_simp; go_at_call 44; refine (HYfalse.out _ hRp).mono ?_; rintro e wz ⟨rfl, hR2, hgz⟩; have hS2 : SetAt wz g W bs2 := hSp.blocks (hgz.block _ hSp.glt (by intro e; injection e; omega)) (hgz.block _ (Nat.lt_trans hSp.lt hSp.glt) (by intro e; injection e; omega)); have hbz := hbp.grown hgz hbp.size (by intro k hk; injection hk with hk; omega)))
              all_goals
                clear hx0d hx1d hx0 hx1
                go_wp2
                go_roundg (l.length - (j + 1))
                case measure => omega
                case rel => exact ⟨j + 1, bs2, by omega, by go_num, ⟨hS2, hR2, hls⟩, hlen, hbz⟩
        · obtain rfl : j = l.length := by omega
          go_wp2
          go_ret3
          exact ⟨_, _, _, _, _, rfl, hP, hbl, hW, hbw⟩
  · obtain rfl : n2 = 2000 := by omega
    have hn3 : 2000 < n := by omega
    clear hn2 hn
    go_upto_region 3 with (first
      | (go_at_call 10; refine (HN.out _).mono ?_; rintro e w1 ⟨g, W, rfl, hS1, hW, hb1⟩)
      | (go_at_call 43; refine (HM.out _).mono ?_; rintro e w2 ⟨gr, R, rfl, hR2, hR, hb2⟩))
    all_goals
      have hg1 := hS1.glt
      have hP2 : Pair w2 g W gr R bs0 := ⟨hS1.below hb2, hR2, by omega⟩
      have hb02 := hb1.trans (hb2.mono hb1.size)
      clear hS1 hR2 hb1 hb2 hR hg1 HN HM
      go_wp2_with fail
      go_loopg [20] l.length (fun r i wr => ∃ (j : Nat) (bs : List Bool), j + r = l.length ∧ i = .int .i64 j ∧ Pair wr g W gr R bs ∧ bs.length ≤ 2000 ∧ Below w.heap.size w wr)
      case atStart => exact ⟨0, bs0, by omega, rfl, hP2, hcl, hb02⟩
      case round =>
        clear hP2 hcl hb02
        obtain ⟨j, bs, hj, rfl, hP, hbl, hbw⟩ := hrel
        by_cases hjl : j < l.length
        · obtain ⟨a, rfl, hcell⟩ := deed_at (HR0.out.below hbw) j hjl
          generalize l[j] = x at hcell
          obtain ⟨xo, xi⟩ := x
          have hcell := Lib.hid hcell
          unfold dc at hcell
          go_upto_region 6 with (refine wpList_load_any rfl 64 (.tmp 23) rfl _ rfl _ _ hcell.out rfl rfl info_do ?_)
          have hb5 : Below wr.heap.size wr (wr.alloc (.cells #[.int .i64 xo, .int .i64 xi] 64)) := (Below.refl _ _).alloc (Nat.le_refl _) _
          have hx0 : (wr.alloc (.cells #[.int .i64 xo, .int .i64 xi] 64)).cell? ⟨wr.heap.size, 0, none⟩ = some (.int .i64 xo) := by go_cell
          have hx1 : (wr.alloc (.cells #[.int .i64 xo, .int .i64 xi] 64)).cell? ⟨wr.heap.size, 1, none⟩ = some (.int .i64 xi) := by go_cell
          have hP5 := hP.below hb5
          have hb05 := hbw.trans (hb5.mono hbw.size)
          have hgs := hP.ref.glt
          have hls := hP.lt
          have hls1 := hP.set.lt
          have hls2 := hP.ref.lt
          generalize wr.alloc (.cells #[.int .i64 xo, .int .i64 xi] 64) = W5 at hb5 hx0 hx1 hP5 hb05
          obtain ⟨q, hq⟩ : ∃ q, q = wr.heap.size := ⟨_, rfl⟩
          rw [← hq] at hx0 hx1 hgs ⊢
          clear hcell hP hbw hb5 hq
          by_cases h200 : 200 ≤ j
          · have hd : decide ((200 : Int) ≤ (j : Int)) = true := decide_eq_true (by omega)
            go_wp2
            go_ret3
            exact ⟨_, _, _, _, _, rfl, hP5, hbl, hW, hb05⟩
          · have hd : decide ((200 : Int) ≤ (j : Int)) = false := decide_eq_false (by omega)
            have hx0d : W5.drew.cell? ⟨q, 0, none⟩ = some (.int .i64 xo) := hx0
            have hx1d : W5.drew.cell? ⟨q, 1, none⟩ = some (.int .i64 xi) := hx1
            have hS0 : SetAt W5.drew g W bs := hP5.set.below ((Below.refl _ _).drew)
            have hRf0 : RefAt W5.drew gr R bs := hP5.ref.below ((Below.refl _ _).drew)
            have hb0d := hb05.drew
            have HXtrue : Hid (∀ w', SetAt w' g W bs → Calls Tryd.prog 14 #[.pointer (some ⟨g, 0, none⟩), .int .i64 xi] w' fun e w'' => e = .returned (.bool (decide (0 ≤ xi ∧ xi < bs.length))) ∧ SetAt w'' g W (upd bs xi true) ∧ w'.grownBy w'' (some W)) := fun w' h => put_any g W bs xi w' h
            have HXfalse : Hid (∀ w', SetAt w' g W bs → Calls Tryd.prog 28 #[.pointer (some ⟨g, 0, none⟩), .int .i64 xi] w' fun e w'' => e = .returned (.bool (decide (0 ≤ xi ∧ xi < bs.length))) ∧ SetAt w'' g W (upd bs xi false) ∧ w'.grownBy w'' (some W)) := fun w' h => cut_any g W bs xi w' h
            have HYtrue : Hid (∀ w', RefAt w' gr R bs → Calls Tryd.prog 44 #[.pointer (some ⟨gr, 0, none⟩), .int .i64 xi, .bool true] w' fun e w'' => e = .returned (.bool (decide (0 ≤ xi ∧ xi < bs.length))) ∧ RefAt w'' gr R (upd bs xi true) ∧ w'.grownBy w'' (some R)) := fun w' h => rset_any gr R bs xi true w' h
            have HYfalse : Hid (∀ w', RefAt w' gr R bs → Calls Tryd.prog 44 #[.pointer (some ⟨gr, 0, none⟩), .int .i64 xi, .bool false] w' fun e w'' => e = .returned (.bool (decide (0 ≤ xi ∧ xi < bs.length))) ∧ RefAt w'' gr R (upd bs xi false) ∧ w'.grownBy w'' (some R)) := fun w' h => rset_any gr R bs xi false w' h
            generalize decide (0 ≤ xi ∧ xi < bs.length) = dd at HXtrue HXfalse HYtrue HYfalse
            clear hP5
            go_upto_region 9 with fail
            · clear HXfalse HYfalse
              have hlen : (upd bs xi true).length ≤ 2000 := by rw [upd_length]; exact hbl
              generalize upd bs xi true = bs2 at HXtrue HYtrue hlen
              go_region_law (first
                | (go_simp; go_at_call 14; refine (HXtrue.out _ hS0).mono ?_; rintro e wp ⟨rfl, hSp, hgp⟩; have hRp : RefAt wp gr R bs := hRf0.blocks (hgp.block _ hRf0.glt (by intro e; injection e; omega)) (hgp.block _ (Nat.lt_trans hRf0.lt hRf0.glt) (by intro e; injection e; omega)); have hcp := (hgp.cell hx1d (by intro e; injection e with e; have e2 : q = W := e; omega)); have hbp := hb0d.grown hgp hb0d.size (by intro k hk; injection hk with hk; omega))
                | (go_simp; go_at_call 14; refine (HXtrue.out _ hSq).mono ?_; rintro e wz ⟨rfl, hS2, hgz⟩; have hR2 : RefAt wz gr R bs2 := hRq.blocks (hgz.block _ hRq.glt (by intro e; injection e; omega)) (hgz.block _ (Nat.lt_trans hRq.lt hRq.glt) (by intro e; injection e; omega)); have hbz := hbq.grown hgz hbq.size (by intro k hk; injection hk with hk; omega))
                | (go_simp; go_at_call 44; refine (HYtrue.out _ hRf0).mono ?_; rintro e wq ⟨rfl, hRq, hgq⟩; have hSq : SetAt wq g W bs := hS0.blocks (hgq.block _ hS0.glt (by intro e; injection e; omega)) (hgq.block _ (Nat.lt_trans hS0.lt hS0.glt) (by intro e; injection e; omega)); have hcq := (hgq.cell hx1d (by intro e; injection e with e; have e2 : q = R := e; omega)); have hbq := hb0d.grown hgq hb0d.size (by intro k hk; injection hk with hk; omega))
                | (go_simp; go_at_call 44; refine (HYtrue.out _ hRp).mono ?_; rintro e wz ⟨rfl, hR2, hgz⟩; have hS2 : SetAt wz g W bs2 := hSp.blocks (hgz.block _ hSp.glt (by intro e; injection e; omega)) (hgz.block _ (Nat.lt_trans hSp.lt hSp.glt) (by intro e; injection e; omega)); have hbz := hbp.grown hgz hbp.size (by intro k hk; injection hk with hk; omega)))
              all_goals
                clear hx0d hx1d hx0 hx1
                go_wp2
                go_roundg (l.length - (j + 1))
                case measure => omega
                case rel => exact ⟨j + 1, bs2, by omega, by go_num, ⟨hS2, hR2, hls⟩, hlen, hbz⟩
            · clear HXtrue HYtrue
              have hlen : (upd bs xi false).length ≤ 2000 := by rw [upd_length]; exact hbl
              generalize upd bs xi false = bs2 at HXfalse HYfalse hlen
              go_region_law (first
                | (go_simp; go_at_call 28; refine (HXfalse.out _ hS0).mono ?_; rintro e wp ⟨rfl, hSp, hgp⟩; have hRp : RefAt wp gr R bs := hRf0.blocks (hgp.block _ hRf0.glt (by intro e; injection e; omega)) (hgp.block _ (Nat.lt_trans hRf0.lt hRf0.glt) (by intro e; injection e; omega)); have hcp := (hgp.cell hx1d (by intro e; injection e with e; have e2 : q = W := e; omega)); have hbp := hb0d.grown hgp hb0d.size (by intro k hk; injection hk with hk; omega))
                | (go_simp; go_at_call 28; refine (HXfalse.out _ hSq).mono ?_; rintro e wz ⟨rfl, hS2, hgz⟩; have hR2 : RefAt wz gr R bs2 := hRq.blocks (hgz.block _ hRq.glt (by intro e; injection e; omega)) (hgz.block _ (Nat.lt_trans hRq.lt hRq.glt) (by intro e; injection e; omega)); have hbz := hbq.grown hgz hbq.size (by intro k hk; injection hk with hk; omega))
                | (go_simp; go_at_call 44; refine (HYfalse.out _ hRf0).mono ?_; rintro e wq ⟨rfl, hRq, hgq⟩; have hSq : SetAt wq g W bs := hS0.blocks (hgq.block _ hS0.glt (by intro e; injection e; omega)) (hgq.block _ (Nat.lt_trans hS0.lt hS0.glt) (by intro e; injection e; omega)); have hcq := (hgq.cell hx1d (by intro e; injection e with e; have e2 : q = R := e; omega)); have hbq := hb0d.grown hgq hb0d.size (by intro k hk; injection hk with hk; omega))
                | (go_simp; go_at_call 44; refine (HYfalse.out _ hRp).mono ?_; rintro e wz ⟨rfl, hR2, hgz⟩; have hS2 : SetAt wz g W bs2 := hSp.blocks (hgz.block _ hSp.glt (by intro e; injection e; omega)) (hgz.block _ (Nat.lt_trans hSp.lt hSp.glt) (by intro e; injection e; omega)); have hbz := hbp.grown hgz hbp.size (by intro k hk; injection hk with hk; omega)))
              all_goals
                clear hx0d hx1d hx0 hx1
                go_wp2
                go_roundg (l.length - (j + 1))
                case measure => omega
                case rel => exact ⟨j + 1, bs2, by omega, by go_num, ⟨hS2, hR2, hls⟩, hlen, hbz⟩
        · obtain rfl : j = l.length := by omega
          go_wp2
          go_ret3
          exact ⟨_, _, _, _, _, rfl, hP, hbl, hW, hbw⟩
end Go.Proofs.YtopgikjmeebgbaaDoor
