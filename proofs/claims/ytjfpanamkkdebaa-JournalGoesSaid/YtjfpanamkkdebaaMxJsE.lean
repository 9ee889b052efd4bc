/- JournalPlays: the walk. -/
import Derived.Test.YtjfpanamkkdebaaMaN
import Derived.Test.YtjfpanamkkdebaaMaO
import Derived.Deep.Cut
import Derived.Deep.WholeRow
import Derived.Deep.MidRow
namespace Go.Proofs.Ytjfpanamkkdebaa
open Go.RowKit
set_option linter.unusedVariables false
set_option linter.unusedSimpArgs false
theorem lies_old {w : World} {A : Option Addr} {vs : List Value} (h : Lies w A vs) (hv : vs ≠ []) : ∀ p, A = some p → p.block < w.heap.size := by
  intro p hp
  match vs, hv with
  | v :: vs, _ =>
    obtain ⟨a, ha, hc⟩ := h 0 v rfl
    rw [hp] at ha
    injection ha with ha
    subst ha
    have := World.block_lt_of_cell? w _ hc
    simpa [Addr.add] using this
theorem RB.old {w : World} {A : Option Addr} {bs : List UInt8} (h : RB w A bs) : ∀ a, A = some a → bs ≠ [] → a.block < w.heap.size := fun a e hne => lies_old h (by simpa using hne) a e
/-- A row or a struct out of memory, at any address. -/
theorem wpList_load_any {P : Program} {ops : Array Oper} {rest : List Oper} {op : Oper} {a : Act} {w : World} {Q : Exit → Act → World → Prop} (hgd : op.guard = none) (ty : TypeId) (x : Operand) (ho : op.op = .load ty x)
    (b : Addr) (hx : a.eval x = .pointer (some b)) (cs : List Value) (d : TypeDesc) (hc : ∀ j v, cs[j]? = some v → w.cell? (b.add j) = some v)
    (hu : P.underlying ty = some d) (hd : d.isRow = true) (hi : (P.info? ty).map (·.size) = some cs.length)
    (h : wpList P ops Q rest (a.put op.dst (.agg cs.toArray)) w) : wpList P ops Q (op :: rest) a w := by
  refine wpList_plain hgd fun K hK => ?_
  have hl : (loadCells b cs.length).run P w = .ok cs.toArray w := run_loadCells_list (P := P) w b cs hc
  have hv : (loadVar ty b).run P w = .ok (.agg cs.toArray) w := by
    cases hq : P.info? ty with
    | none => simp [hq] at hi
    | some i =>
      have hs : i.size = cs.length := by simpa [hq] using hi
      have hagg : (isAgg ty).run P w = .ok true w := by
        unfold isAgg
        rw [Sem.run_bind, run_underlying hu w]
        cases d <;> simp_all
      simp [loadVar, Sem.run_bind, hagg, sizeOf, typeInfo, hq, hs, hl]
  unfold Oper.wp execOp
  simp only [ho, hx, Instr.loadAt, Instr.sureAddr, Sem.run_bind, Sem.run_pure, Result.andThen_ok, hv]
  exact hK _ _ h
theorem info_do : (Try.prog.info? 48).map (·.size) = some 2 := by kernel_rfl
/-- A deed that came in, done. -/
theorem step_do (B p g k m c r K N : Nat) (L : Lg) (x : RL) (kx : DoL) (w wr : World) (hk : kx.In w) (hB : B = w.heap.size) (hb : Below w.heap.size w wr) (h : PairS B wr p g k m c r L x) (ha : Alike K N L x) (hK : K + 1 < 256) :
    Calls Try.prog 19 #[.pointer (some ⟨p, 0, none⟩), .agg #[.int .i64 kx.op, .slice kx.A kx.b.length kx.c]] wr fun e w' => e = .returned (.bool true) ∧ ∃ L' x', PairS B w' p g k m c r L' x' ∧ Alike (K + 1) N L' x' ∧ Below w.heap.size w w' := by
  subst hB
  refine (jdoes_any w.heap.size p g k m c r K N L x kx.op kx.A kx.c kx.b wr h ha hK (hk.rb.below hb) hk.cc hk.c0 hk.bl hk.rb.old hb.size).mono ?_
  rintro e w' ⟨he, L', x', h1, h2, h3⟩
  exact ⟨he, L', x', h1, h2, hb.trans h3⟩
set_option maxRecDepth 100000 in
set_option maxHeartbeats 3200000 in
theorem jplays_walk (n : Int) (A : Option Addr) (c : Nat) (bs : List UInt8) (Ls : Option Addr) (cl : Nat) (ls : List DoL) (w : World) (hn : (Lit.int .i64 n).wf = true) (hr : RB w A bs) (hA : A = none → c = 0) (hl : bs.length ≤ c) (hm : bs.length ≤ 140737488351232)
    (hL : Lies w Ls (ls.flatMap dok)) (hI : ∀ x ∈ ls, x.In w) (hll : ls.length ≤ 9223372036854775807) :
    Calls Try.prog 5 #[.int .i64 n, .slice A bs.length c, .slice Ls ls.length cl] w fun e w' => e = .returned (.bool true) ∧ Below w.heap.size w w' := by
  obtain ⟨N6, hN6, hN60⟩ : ∃ N6 : Nat, (IntKind.u64.wrap n).tmod 60 = (N6 : Int) ∧ N6 < 60 := by
    have h0 : 0 ≤ IntKind.u64.wrap n := by unfold IntKind.wrap; simp [IntKind.bits, IntKind.signed]; omega
    refine ⟨((IntKind.u64.wrap n).tmod 60).toNat, ?_, ?_⟩
    · rw [Int.tmod_eq_emod_of_nonneg h0]; omega
    · rw [Int.tmod_eq_emod_of_nonneg h0]; omega
  obtain ⟨N, hN⟩ : ∃ N : Nat, 8 + (N6 : Int) = (N : Int) := ⟨8 + N6, by omega⟩
  have hN8 : 8 ≤ N := by omega
  have hNm : N ≤ 68 := by omega
  obtain ⟨q, hq1, hq2⟩ : ∃ q : Nat, min (bs.length : Int) 1800 = (q : Int) ∧ q = (bs.take 1800).length := ⟨(bs.take 1800).length, by rw [List.length_take]; omega, rfl⟩
  have hq5 : (if (1800 : Int) < (bs.length : Int) then 1800 else (bs.length : Int)) = (q : Int) := by rw [← hq1]; split <;> omega
  have hq0 : (0 : Int) ≤ (q : Int) := by omega
  have hq3 : (q : Int) ≤ (c : Int) := by rw [List.length_take] at hq2; omega
  have hR1 := hr.takeN 1800
  obtain ⟨b, hb⟩ : ∃ b, bs.take 1800 = b := ⟨_, rfl⟩
  rw [hb] at hq2 hR1
  have hb18 : b.length ≤ 1800 := by rw [← hb, List.length_take]; omega
  have hbc : b.length ≤ c := by omega
  have HM := Lib.hid (made_any N A c b w hN8 (by omega) hR1 hA hbc (by omega) hR1.old)
  rw [← hq2] at HM
  obtain ⟨hfe, hfl⟩ := format_new N hN8 (by omega) b
  have HFl := Lib.hid hfl
  have HLs := Lib.hid hL
  have HI := Lib.hid hI
  have HAw := Lib.hid (fun w2 => jawake_any w2)
  obtain ⟨R, hR⟩ : ∃ R, RL.format N b = R := ⟨_, rfl⟩
  rw [hR] at HM HFl
  obtain ⟨e0, x0⟩ := R
  dsimp only at HM HFl
  obtain ⟨B, hB⟩ : ∃ B, B = w.heap.size := ⟨_, rfl⟩
  have HB := Lib.hid hB
  rw [← hB] at HM
  clear hr hL hI hR1 hb hq2 hfe hfl hR hn hB
  go_enter Try.func5, Try.ntmps5
  go_wp2_with fail
  refine HM.out.mono ?_
  rintro e w1 ⟨pv, rfl, hb1, h1⟩
  rcases h1 with ⟨_, rfl⟩ | ⟨h0, p, g, k, m, c1, r, rfl, hP⟩
  · clear HM HFl HLs HI
    go_wp2_with (go_at_call 13; refine (HAw.out _).mono ?_; rintro e w9 ⟨rfl, hb9⟩)
    go_returns
    rw [HB.out] at hb1
    exact ⟨rfl, hb1.trans (hb9.mono hb1.size)⟩
  · have hAl : Alike 1 N (formatLg (fresh N) b) x0 := by
      obtain ⟨f1, f2, f3, f4⟩ := HFl.out h0
      exact ⟨f1, f3, f2, f4⟩
    rw [HB.out] at hb1
    have H1 := Lib.hid (⟨_, _, hP, hAl, hb1⟩ : ∃ L x, PairS B w1 p g k m c1 r L x ∧ Alike 1 N L x ∧ Below w.heap.size w w1)
    clear HM HFl hP hAl hb1 h0
    go_wp2_with fail
    go_loopg [38] ls.length (fun rr i wr => ∃ j : Nat, j + rr = ls.length ∧ i = .int .i64 j ∧ ∃ L x, PairS B wr p g k m c1 r L x ∧ Alike (1 + min j 40) N L x ∧ Below w.heap.size w wr)
    case atStart => exact ⟨0, by omega, rfl, H1.out⟩
    case round =>
      clear H1
      obtain ⟨j, hj, rfl, L, x, hP, ha, hbw⟩ := hrel
      by_cases hjl : j < ls.length
      · obtain ⟨p0, rfl, hcell⟩ := flat_get (f := dok) (n := 2) (fun _ => rfl) (by decide) (HLs.out.below hbw) j hjl
        have hk := HI.out _ (List.getElem_mem hjl)
        generalize ls[j] = kx at hcell hk
        unfold dok at hcell
        have HC := Lib.hid hcell
        have HK := Lib.hid hk
        have HP := Lib.hid hP
        have HA := Lib.hid ha
        have HBw := Lib.hid hbw
        clear hcell hk hP ha hbw
        have hj1 : decide ((j : Int) < (ls.length : Int)) = true := decide_eq_true (by omega)
        have hj2 : (j : Int) < (ls.length : Int) := by omega
        have hj0 : (0 : Int) ≤ (j : Int) := by omega
        go_upto_region 8 with (refine wpList_load_any rfl 48 (.tmp 41) rfl _ rfl _ _ HC.out rfl rfl info_do ?_)
        have hb5 : Below wr.heap.size wr (wr.alloc (.cells #[.int .i64 kx.op, .slice kx.A kx.b.length kx.c] 48)) := (Below.refl _ _).alloc (Nat.le_refl _) _
        have hx0 : (wr.alloc (.cells #[.int .i64 kx.op, .slice kx.A kx.b.length kx.c] 48)).cell? ⟨wr.heap.size, 0, none⟩ = some (.int .i64 kx.op) := by go_cell
        have hx1 : (wr.alloc (.cells #[.int .i64 kx.op, .slice kx.A kx.b.length kx.c] 48)).cell? ⟨wr.heap.size, 1, none⟩ = some (.slice kx.A kx.b.length kx.c) := by go_cell
        have HP5 := Lib.hid (HP.out.below hb5)
        have HB5 := Lib.hid (HBw.out.trans (hb5.mono HBw.out.size))
        generalize (wr.alloc (.cells #[.int .i64 kx.op, .slice kx.A kx.b.length kx.c] 48)) = W5 at *
        generalize wr.heap.size = N5 at *
        clear hb5 HC HP HBw
        by_cases h40 : j < 40
        · have e40 : decide ((j : Int) < 40) = true := decide_eq_true (by omega)
          have HSt := Lib.hid (step_do B p g k m c1 r (1 + min j 40) N L x kx w W5 HK.out HB.out HB5.out HP5.out HA.out (by omega))
          go_wp2_with fail
          refine HSt.out.mono ?_
          rintro e w6 ⟨rfl, L', x', hP6, hA6, hb6⟩
          have HSm := Lib.hid (jsame_any B p g k m c1 r (1 + min j 40 + 1) N L' x' w6 hP6 hA6)
          have H6 := Lib.hid (⟨hP6, hA6, hb6⟩ : _ ∧ _ ∧ _)
          clear hP6 hA6 hb6 HSt
          go_wp2_with (go_at_call 24; refine HSm.out.mono ?_; rintro e w7 ⟨rfl, hb7⟩)
          go_roundg (ls.length - (j + 1))
          case measure => omega
          case rel =>
            obtain ⟨hP6, hA6, hb6⟩ := H6.out
            exact ⟨j + 1, by omega, by go_num, L', x', hP6.below hb7, hA6.mono (by omega), hb6.trans (hb7.mono hb6.size)⟩
        · have e40 : decide ((j : Int) < 40) = false := decide_eq_false (by omega)
          go_wp2_with fail
          go_roundg (ls.length - (j + 1))
          case measure => omega
          case rel => exact ⟨j + 1, by omega, by go_num, L, x, HP5.out, HA.out.mono (by omega), HB5.out⟩
      · obtain rfl : j = ls.length := by omega
        have hj1 : decide ((ls.length : Int) < (ls.length : Int)) = false := decide_eq_false (by omega)
        have HBw := Lib.hid hbw
        clear hP ha hbw
        go_wp2_with (go_at_call 13; refine (HAw.out _).mono ?_; rintro e w9 ⟨rfl, hb9⟩)
        go_returns
        exact ⟨rfl, HBw.out.trans (hb9.mono HBw.out.size)⟩
end Go.Proofs.Ytjfpanamkkdebaa
