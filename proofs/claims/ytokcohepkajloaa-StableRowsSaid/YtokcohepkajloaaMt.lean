/- The walk of the law that what all have never falls. -/
import Derived.Test.YtokcohepkajloaaMp
import Derived.OwnWalk
namespace Go.Proofs.Ytokcohepkajloaa
open Go.RowKit
set_option linter.unusedVariables false
set_option linter.unusedSimpArgs false
/-- What was heard: the cells. -/
def hc (h : Int × List Int) : List Value := .int .i64 h.1 :: ic h.2
/-- A row or a struct out of memory, at any address. -/
theorem wpList_load_any {P : Program} {ops : Array Oper} {rest : List Oper} {op : Oper} {a : Act} {w : World} {Q : Exit → Act → World → Prop} (hgd : op.guard = none) (ty : TypeId) (x : Operand) (ho : op.op = .load ty x)
    (b : Addr) (hx : a.eval x = .pointer (some b)) (cs : List Value) (d : TypeDesc) (hc : ∀ j v, cs[j]? = some v → w.cell? (b.add j) = some v)
    (hu : P.underlying ty = some d) (hd : d.isRow = true) (hi : (P.info? ty).map (·.size) = some cs.length)
    (h : wpList P ops Q rest (a.put op.dst (.agg cs.toArray)) w) : wpList P ops Q (op :: rest) a w := by
  refine wpList_plain hgd fun K hK => ?_
  have hl : (loadCells b cs.length).run P w = .ok cs.toArray w := run_loadCells_list (P := P) w b cs hc
  have hv : (loadVar ty b).run P w = .ok (.agg cs.toArray) w := by
    cases hq : P.info? ty with
    | none => simp [hq] at hi
    | some i =>
      have hs : i.size = cs.length := by simpa [hq] using hi
      have hagg : (isAgg ty).run P w = .ok true w := by
        unfold isAgg
        rw [Sem.run_bind, run_underlying hu w]
        cases d <;> simp_all
      simp [loadVar, Sem.run_bind, hagg, sizeOf, typeInfo, hq, hs, hl]
  unfold Oper.wp execOp
  simp only [ho, hx, Instr.loadAt, Instr.sureAddr, Sem.run_bind, Sem.run_pure, Result.andThen_ok, hv]
  exact hK _ _ h
theorem five (n : Int) : ∃ m : Nat, 1 ≤ m ∧ m ≤ 5 ∧ wrap64 (1 + wrap64 ((IntKind.u64.wrap n).tmod 5)) = (m : Int) := by
  rw [IntKind.wrap_u64, tmod_of_emod]
  have h0 : 0 ≤ n % 18446744073709551616 := Int.emod_nonneg _ (by decide)
  generalize n % 18446744073709551616 = x at h0
  have h1 := Int.emod_nonneg x (show (5 : Int) ≠ 0 by decide)
  have h2 := Int.emod_lt_of_pos x (show (0 : Int) < 5 by decide)
  generalize x % 5 = y at h1 h2
  refine ⟨(1 + y).toNat, by omega, by omega, ?_⟩
  unfold wrap64
  omega
theorem info_heard : (Try.prog.info? 30).map (·.size) = some 65 := by kernel_rfl
theorem info_hc {h : Int × List Int} (hh : h.2.length = 64) : (Try.prog.info? 30).map (·.size) = some (hc h).length := by rw [info_heard, hc, List.length_cons, ic_size, hh]
theorem flat_at : ∀ (l : List (Int × List Int)) (j k : Nat) (hj : j < l.length), (∀ h ∈ l, h.2.length = 64) → k < 65 → (l.flatMap hc)[j * 65 + k]? = (hc l[j])[k]?
  | [], _, _, hj, _, _ => by cases hj
  | h :: l, 0, k, _, hv, hk => by
    have : (hc h).length = 65 := by rw [hc, List.length_cons, ic_size, hv h List.mem_cons_self]
    rw [List.flatMap_cons, Nat.zero_mul, Nat.zero_add, List.getElem?_append_left (by omega)]; rfl
  | h :: l, j + 1, k, hj, hv, hk => by
    have : (hc h).length = 65 := by rw [hc, List.length_cons, ic_size, hv h List.mem_cons_self]
    rw [List.flatMap_cons, List.getElem?_append_right (by omega), this, show (j + 1) * 65 + k - 65 = j * 65 + k by omega]
    exact flat_at l j k (by simpa using hj) (fun x hx => hv x (List.mem_cons_of_mem _ hx)) hk
theorem heard_at {w : World} {A : Option Addr} {l : List (Int × List Int)} (h : Lies w A (l.flatMap hc)) (hv : ∀ h ∈ l, h.2.length = 64) (j : Nat) (hj : j < l.length) : ∃ a, A = some a ∧ ∀ k v, (hc l[j])[k]? = some v → w.cell? ((a.add (j * 65)).add k) = some v := by
  have hl : (hc l[j]).length = 65 := by rw [hc, List.length_cons, ic_size, hv _ (List.getElem_mem hj)]
  have h0 : (l.flatMap hc)[j * 65 + 0]? = some (.int .i64 l[j].1) := by rw [flat_at l j 0 hj hv (by decide)]; rfl
  obtain ⟨a, rfl, _⟩ := h _ _ h0
  refine ⟨a, rfl, fun k v hk => ?_⟩
  have hk65 : k < 65 := by rw [← hl]; exact (List.getElem?_eq_some_iff.1 hk).1
  rw [← flat_at l j k hj hv hk65] at hk
  obtain ⟨a', e, hc⟩ := h _ _ hk
  cases e
  rw [Addr.add_add]
  exact hc
theorem note_step (g R : Nat) (rs : List (List Int)) (x : Int × List Int) (w : World) (h : Mat w g R rs) (hn : 0 < rs.length) (hx : x.2.length = 64) (hn5 : rs.length ≤ 5) :
    Calls Try.prog 9 #[.pointer (some ⟨g, 0, none⟩), .int .i64 x.1, vv x.2] w fun e w' => ∃ b rs', e = .returned (.bool b) ∧ rs'.length = rs.length ∧ withinv (stab rs) (stab rs') ∧ Mat w' g R rs' ∧ w.grownBy w' (some R) := by
  by_cases hi : 0 ≤ x.1 ∧ x.1 < rs.length
  · obtain ⟨i, hi2⟩ : ∃ i : Nat, x.1 = (i : Int) := ⟨x.1.toNat, by omega⟩
    have hil : i < rs.length := by omega
    rw [hi2]
    refine (note_in g R i rs x.2 w h hil hx).mono ?_
    rintro e w' ⟨rfl, hM, hg⟩
    exact ⟨true, _, rfl, by rw [List.length_set], stab_up rs h.wide i hil x.2 hx, hM, hg⟩
  · refine (note_out (some ⟨g, 0, none⟩) rs.length x.1 x.2 w hx (fun w' hb => size_any g R rs w' (h.below hb)) (by omega)).mono ?_
    rintro e w' ⟨rfl, hb⟩
    exact ⟨false, rs, rfl, rfl, within_refl _, h.below hb, Lib.grownBy_below (World.grownBy.refl w (some R)) hb⟩
def hz : Array Value := (hc (0, List.replicate 64 0)).toArray
theorem info_hz : (Try.prog.info? 30).map (fun i => (i.zero, i.size)) = some (some (.agg hz), 65) := by kernel_rfl
theorem hc_arr {h : Int × List Int} (hh : h.2.length = 64) : hz.size = (hc h).toArray.size := by
  have : (hc h).length = 65 := by rw [hc, List.length_cons, ic_size, hh]
  have e : (hc h).toArray.size = 65 := by rw [List.size_toArray, this]
  rw [e]; rfl
theorem hc_info {h : Int × List Int} (hh : h.2.length = 64) : (Try.prog.info? 30).map (·.size) = some (hc h).toArray.size := by rw [List.size_toArray]; exact info_hc hh
theorem hc_one (h : Int × List Int) : (hc h).toArray.all (·.oneCell') = true := all_oneCell_toArray fun v hv => by
  rcases List.mem_cons.1 hv with rfl | hv
  · rfl
  · obtain ⟨x, _, rfl⟩ := List.mem_map.1 hv
    rfl
set_option maxHeartbeats 1600000 in
theorem stableSlow_walk (n : Int) (A : Option Addr) (c : Nat) (l : List (Int × List Int)) (w : World) (hw : (Lit.int .i64 n).wf = true) (hr : Lies w A (l.flatMap hc)) (hA : A = none → c = 0) (hlc : l.length ≤ c) (hv : ∀ h ∈ l, h.2.length = 64) (hm : l.length ≤ 9223372036854775807) :
    Calls Try.prog 3 #[.int .i64 n, .slice A l.length c] w fun e w' => e = .returned (.bool true) ∧ Below w.heap.size w w' := by
  have hn := wf_i64 hw
  have hz30 := (zero_of_info info_hz).1
  go_enter Try.func3, Try.ntmps3
  obtain ⟨m, hm1, hm5, hme⟩ := five n
  go_upto_region 2 with fail
  rw [hme]
  have HR0 := Lib.hid hr
  clear hme hn hr hw
  go_upto_region 3 with (go_at_call 7; refine (new_any m w hm1 (by omega)).mono ?_; rintro e w1 ⟨g, R, rfl, hM1, hR1, hb1⟩)
  obtain ⟨rows, hrows⟩ : ∃ rows, rows = List.replicate m (List.replicate 64 (0 : Int)) := ⟨_, rfl⟩
  have hrl : rows.length = m := by rw [hrows, List.length_replicate]
  rw [← hrows] at hM1
  clear hrows
  have hsl := stab_length (r := rows.headD []) (by cases rows with | nil => simp at hrl; omega | cons r t => exact hM1.wide r List.mem_cons_self) rows.tail (fun x hx => hM1.wide x (List.mem_of_mem_tail hx))
  change (stab rows).length = 64 at hsl
  have HS := stable_any g R rows w1 hM1 (by omega) (by omega)
  unfold vv at HS
  have HS := Lib.hid HS
  have hia := Lib.hid (info_of hsl)
  have ho := Lib.hid (ic_one (stab rows))
  have hzs := Lib.hid (zs_of hsl)
  have HRl := Lib.hid hrl
  clear hrl hsl
  go_upto_region 4 with (first
    | (go_at_call 8; refine HS.out.mono ?_; rintro e w2 ⟨rfl, hb2⟩)
    | (refine wpList_store_row rfl 27 (.tmp 6) _ rfl w2.heap.size (ic (stab rows)).toArray rfl rfl 27 _ (heap_alloc_new _ _) hia.out hzs.out ho.out ?_))
  rw [zc_eq]
  have hq : ((w2.alloc (.cells zc 27)).setRow w2.heap.size (ic (stab rows)).toArray).heap[w2.heap.size]? = some (.cells (ic (stab rows)).toArray 27 (0, 0)) := setRow_heap _ _ _ _ _ _ (heap_alloc_new _ _)
  have hb3 : Below w1.heap.size w1 ((w2.alloc (.cells zc 27)).setRow w2.heap.size (ic (stab rows)).toArray) := below_setRow (hb2.alloc hb2.size _) hb2.size _
  have hM := hM1.below hb3
  have hbW := hb1.trans (hb3.mono hb1.size)
  have hgq : g < w2.heap.size := Nat.lt_of_lt_of_le (Array.getElem?_eq_some_iff.1 hM1.box).1 hb2.size
  have hwq : w.heap.size ≤ w2.heap.size := Nat.le_trans hb1.size hb2.size
  generalize (w2.alloc (.cells zc 27)).setRow w2.heap.size (ic (stab rows)).toArray = W at hq hM hbW
  have hrl := HRl.out
  obtain ⟨q, hqe⟩ : ∃ q, q = w2.heap.size := ⟨_, rfl⟩
  rw [← hqe] at hq hgq hwq ⊢
  clear hqe hM1 hb1 hb2 hb3 HS hia ho hzs HRl
  go_wp2
  go_loopg [22] l.length (fun r i wr => ∃ (j : Nat) (rs : List (List Int)), j + r = l.length ∧ i = .int .i64 j ∧ rs.length = m ∧ wr.heap[q]? = some (.cells (ic (stab rs)).toArray 27 (0, 0)) ∧ Mat wr g R rs ∧ Below w.heap.size w wr)
  case atStart => exact ⟨0, rows, by omega, rfl, hrl, hq, hM, hbW⟩
  case round =>
    clear hq hM hbW hrl
    obtain ⟨j, rs, hj, rfl, hrl, hq, hM, hbW⟩ := hrel
    by_cases hjl : j < l.length
    · obtain ⟨a, rfl, hcell⟩ := heard_at (HR0.out.below hbW) hv j hjl
      have hh := hv _ (List.getElem_mem hjl)
      have hih := Lib.hid (info_hc hh)
      have hhl := hh
      generalize l[j] = x at hcell hh hih
      have hia := Lib.hid (hc_info hh)
      have hzs := Lib.hid (hc_arr hh)
      have ho := Lib.hid (hc_one x)
      go_upto_region 7 with (first
        | (refine wpList_load_any rfl 30 (.tmp 25) rfl (a.add (j * 65)) rfl (hc x) _ hcell Try.underlying30 rfl hih.out ?_)
        | (refine wpList_store_row rfl 30 (.tmp 8) _ rfl wr.heap.size (hc x).toArray rfl rfl 30 _ (heap_alloc_new _ _) hia.out hzs.out ho.out ?_))
      have hx8 : ((wr.alloc (.cells hz 30)).setRow wr.heap.size (hc x).toArray).heap[wr.heap.size]? = some (.cells (hc x).toArray 30 (0, 0)) := setRow_heap _ _ _ _ _ _ (heap_alloc_new _ _)
      have hbX : Below wr.heap.size wr ((wr.alloc (.cells hz 30)).setRow wr.heap.size (hc x).toArray) := below_setRow ((Below.refl _ _).alloc (Nat.le_refl _) _) (Nat.le_refl _) _
      generalize (wr.alloc (.cells hz 30)).setRow wr.heap.size (hc x).toArray = W5 at hx8 hbX
      have hqs : q < wr.heap.size := (Array.getElem?_eq_some_iff.1 hq).1
      have hq5 : W5.heap[q]? = some (.cells (ic (stab rs)).toArray 27 (0, 0)) := by rw [hbX.block _ hqs]; exact hq
      have hM5 := hM.below hbX
      have hb5 := hbW.trans (hbX.mono hbW.size)
      have hs5 := hbX.size
      obtain ⟨q8, hq8⟩ : ∃ q8, q8 = wr.heap.size := ⟨_, rfl⟩
      rw [← hq8] at hx8 hqs hs5 ⊢
      clear hq hM hbW hbX hcell hia hzs ho hih hq8
      by_cases h60 : j < 60
      · have hd : decide ((60 : Int) ≤ (j : Int)) = false := decide_eq_false (by omega)
        have hc8 : W5.cell? ⟨q8, 0, none⟩ = some (.int .i64 x.1) := by simp only [World.cell?, hx8]; rfl
        have hv8 : Hid (W5.rangeAt q8 1 (ic x.2)) := by
          show W5.rangeAt q8 1 (ic x.2)
          intro k v hk
          simp only [World.cell?, hx8, List.getElem?_toArray, hc, show 1 + k = k + 1 by omega, List.getElem?_cons_succ]
          exact hk
        have hiv := Lib.hid (info_row hh)
        have HNo := note_step g R rs x W5 hM5 (by omega) hh (by omega)
        unfold vv at HNo
        have HNo := Lib.hid HNo
        have hrs := hM5.wide
        clear hx8
        go_upto_region 9 with (first
          | (refine wpList_load_mid rfl 27 (.tmp 32) rfl q8 1 rfl (ic x.2) _ hv8.out Try.underlying27 rfl hiv.out ?_)
          | (go_at_call 9; refine HNo.out.mono ?_; rintro e w6 ⟨b6, rs2, rfl, hl6, hwi, hM6, hg6⟩))
        have hrl2 : rs2.length = m := by omega
        have hRq : R < q := Nat.lt_trans hM6.lt hgq
        have hq6 : w6.heap[q]? = some (.cells (ic (stab rs)).toArray 27 (0, 0)) := by rw [hg6.block q (by omega) (by intro e; injection e; omega)]; exact hq5
        have hb6 := hb5.grown hg6 hb5.size (by intro k hk; injection hk with hk; omega)
        clear HNo hc8 hv8 hiv hM5 hg6 hq5 hb5 hl6
        have hsl := stab_length (r := rs2.headD []) (by cases rs2 with | nil => simp at hrl2; omega | cons r t => exact hM6.wide r List.mem_cons_self) rs2.tail (fun x hx => hM6.wide x (List.mem_of_mem_tail hx))
        change (stab rs2).length = 64 at hsl
        have hsl1 := stab_length (r := rs.headD []) (by cases rs with | nil => simp at hrl; omega | cons r t => exact hrs r List.mem_cons_self) rs.tail (fun x hx => hrs x (List.mem_of_mem_tail hx))
        change (stab rs).length = 64 at hsl1
        have HS := stable_any g R rs2 w6 hM6 (by omega) (by omega)
        have HWi := fun w => rwithin_true (stab rs) (stab rs2) w hsl1 hsl hwi
        unfold vv at HS HWi
        have HS := Lib.hid HS
        have HWi := Lib.hid HWi
        have hia := Lib.hid (info_of hsl)
        have hia1 := Lib.hid (info_of hsl1)
        have ho := Lib.hid (ic_one (stab rs2))
        have hzs := Lib.hid (zs_of hsl)
        have hzs2 : Hid ((ic (stab rs)).toArray.size = (ic (stab rs2)).toArray.size) := by show _ = _; rw [ic_arr, ic_arr, hsl, hsl1]
        have HRl2 := Lib.hid hrl2
        clear hrl hrl2 hsl hsl1 hwi hrs
        go_upto_region 10 with (first
          | (go_at_call 8; refine HS.out.mono ?_; rintro e w7 ⟨rfl, hb7⟩)
          | (refine wpList_store_row rfl 27 (.tmp 9) _ rfl w7.heap.size (ic (stab rs2)).toArray rfl rfl 27 _ (heap_alloc_new _ _) hia.out hzs.out ho.out ?_))
        rw [zc_eq]
        have h9 : ((w7.alloc (.cells zc 27)).setRow w7.heap.size (ic (stab rs2)).toArray).heap[w7.heap.size]? = some (.cells (ic (stab rs2)).toArray 27 (0, 0)) := setRow_heap _ _ _ _ _ _ (heap_alloc_new _ _)
        have hb8 : Below w6.heap.size w6 ((w7.alloc (.cells zc 27)).setRow w7.heap.size (ic (stab rs2)).toArray) := below_setRow (hb7.alloc hb7.size _) hb7.size _
        have hqs6 : q < w6.heap.size := (Array.getElem?_eq_some_iff.1 hq6).1
        have hq99 : q < w7.heap.size := Nat.lt_of_lt_of_le hqs6 hb7.size
        generalize (w7.alloc (.cells zc 27)).setRow w7.heap.size (ic (stab rs2)).toArray = W8 at h9 hb8
        have hq8 : W8.heap[q]? = some (.cells (ic (stab rs)).toArray 27 (0, 0)) := by rw [hb8.block q hqs6]; exact hq6
        have hM8 := hM6.below hb8
        have hb08 := hb6.trans (hb8.mono hb6.size)
        obtain ⟨q9, hq9⟩ : ∃ q9, q9 = w7.heap.size := ⟨_, rfl⟩
        rw [← hq9] at h9 hq99 ⊢
        clear hq9 hb7 hb8 hb6 hM6 hq6 HS hzs hqs6
        go_upto_region 12 with (first
          | (refine wpList_load_row rfl 27 (.tmp 6) rfl q rfl 27 _ (0, 0) _ hq8 Try.underlying27 rfl hia1.out ?_)
          | (refine wpList_load_row rfl 27 (.tmp 9) rfl q9 rfl 27 _ (0, 0) _ h9 Try.underlying27 rfl hia.out ?_)
          | (go_at_call 10; refine (HWi.out W8).mono ?_; rintro e w9 ⟨rfl, hb9⟩))
        have h99 : w9.heap[q9]? = some (.cells (ic (stab rs2)).toArray 27 (0, 0)) := by rw [hb9.block q9 (Array.getElem?_eq_some_iff.1 h9).1]; exact h9
        have hq9 : w9.heap[q]? = some (.cells (ic (stab rs)).toArray 27 (0, 0)) := by rw [hb9.block q (Array.getElem?_eq_some_iff.1 hq8).1]; exact hq8
        have hM9 := hM8.below hb9
        have hb09 := hb08.trans (hb9.mono hb08.size)
        clear h9 hq8 hM8 hb08 hb9 HWi
        go_wp2
        go_loopg [42] m (fun r i wz => ∃ k : Nat, k + r = m ∧ i = .int .i64 k ∧ Below w9.heap.size w9 wz)
        case atStart => exact ⟨0, by omega, rfl, Below.refl _ _⟩
        case round =>
          obtain ⟨k, hk, rfl, hbz⟩ := hrel
          have hMz := hM9.below hbz
          have h9z : wr.heap[q9]? = some (.cells (ic (stab rs2)).toArray 27 (0, 0)) := by rw [hbz.block q9 (Array.getElem?_eq_some_iff.1 h99).1]; exact h99
          by_cases hkm : k < m
          · have hk5 : k < rs2.length := by rw [HRl2.out]; exact hkm
            have hzl : (stab rs2).length = 64 := stab_length (r := rs2.headD []) (by cases rs2 with | nil => simp at hk5 | cons r t => exact hMz.wide r List.mem_cons_self) rs2.tail (fun x hx => hMz.wide x (List.mem_of_mem_tail hx))
            have hrk := hMz.wide _ (List.getElem_mem hk5)
            have HWk := fun w => rwithin_true (stab rs2) rs2[k] w hzl hrk (stab_within rs2 hMz.wide k hk5)
            have HRow := fun w' (hM : Mat w' g R rs2) => row_in g R k rs2 w' hM hk5
            unfold vv at HWk HRow
            have HWk := Lib.hid HWk
            have HRow := Lib.hid HRow
            have hra0 : Hid (wr.drew.rangeAt q9 0 (ic (stab rs2))) := by
              show wr.drew.rangeAt q9 0 (ic (stab rs2))
              intro y v hy
              simp only [World.cell?, heap_drew, h9z, Nat.zero_add, List.getElem?_toArray]
              exact hy
            have hMd : Mat wr.drew g R rs2 := hMz.below ((Below.refl _ _).drew)
            have hbd : Below w9.heap.size w9 wr.drew := hbz.drew
            obtain ⟨ag, hag⟩ : ∃ ag : Sem Bool, ag = isAgg 27 := ⟨_, rfl⟩
            obtain ⟨so, hso⟩ : ∃ so : Sem Nat, so = sizeOf 27 := ⟨_, rfl⟩
            obtain ⟨N, hN⟩ : ∃ N : Nat, N = 64 := ⟨_, rfl⟩
            have hag1 : isAgg 27 = ag := hag.symm
            have hso1 : sizeOf 27 = so := hso.symm
            have hag2 : ∀ w, ag.run Try.prog w = .ok true w := fun w => by rw [hag]; exact Try.isAgg27 w
            have hso2 : ∀ w, so.run Try.prog w = .ok N w := fun w => by rw [hso, hN]; exact Try.sizeOf27 w
            have hl2 : ∀ (w' : World), w'.rangeAt q9 0 (ic (stab rs2)) → (loadCellsFrom ⟨q9, 0, none⟩ 0 N #[]).run Try.prog w' = .ok (ic (stab rs2)).toArray w' := by
              intro w' hr
              have := run_loadCells_list (P := Try.prog) w' ⟨q9, 0, none⟩ (ic (stab rs2)) (fun j x hj => by rw [Addr.add_mid]; exact hr j x hj)
              rw [ic_size, hzl] at this
              rw [hN]
              exact this
            have hra := hra0.out
            have hHd := hra0
            clear hag hso hN hzl hrk h9z hra0 h99 hq9
            generalize rs2[k] = rk at HWk HRow
            go_wp2_with fail
            go_region_law (first
              | (go_simp; go_at_call 11; refine (HRow.out wr.drew hMd).mono ?_; rintro e w10 ⟨rfl, hb10⟩; have hra10 := range_below hra hb10)
              | (go_simp; go_at_call 10; refine (HWk.out _).mono ?_; rintro e w11 ⟨rfl, hb11⟩))
            all_goals
              go_wp2
              go_roundg (m - (k + 1))
              case measure => omega
              case rel => exact ⟨k + 1, by omega, by go_num, (hbd.trans (hb10.mono hbd.size)).trans (hb11.mono (hbd.trans (hb10.mono hbd.size)).size)⟩
          · have hqz : wr.heap[q]? = some (.cells (ic (stab rs)).toArray 27 (0, 0)) := by rw [hbz.block q (Array.getElem?_eq_some_iff.1 hq9).1]; exact hq9
            obtain rfl : k = m := by omega
            clear h99 hq9 hM9
            have hb0z := hb09.trans (hbz.mono hb09.size)
            go_wp2_with (first
              | (refine wpList_load_row rfl 27 (.tmp 9) rfl q9 rfl 27 _ (0, 0) _ h9z Try.underlying27 rfl hia.out ?_)
              | (refine wpList_store_row rfl 27 (.tmp 6) _ rfl q (ic (stab rs2)).toArray rfl rfl 27 _ hqz hia.out hzs2.out ho.out ?_))
            have hMf : Mat (wr.setRow q (ic (stab rs2)).toArray) g R rs2 := mat_blocks hMz (setRow_other _ _ _ _ (by omega)) (setRow_other _ _ _ _ (by omega))
            go_roundg (l.length - (j + 1))
            case measure => omega
            case rel => exact ⟨j + 1, rs2, by omega, by go_num, HRl2.out, setRow_heap _ _ _ _ _ _ hqz, hMf, below_setRow hb0z hwq _⟩
      · have hd : decide ((60 : Int) ≤ (j : Int)) = true := decide_eq_true (by omega)
        have hsz := size_any g R rs W5 hM5
        rw [hrl] at hsz
        have hsz := Lib.hid hsz
        have H60 := Lib.hid h60
        clear hrl hq5 hx8 h60
        go_wp2_with (first
          | (go_at_call 12; refine hsz.out.mono ?_; rintro e w' ⟨rfl, rfl⟩)
          | (go_at_call 13; refine (awake_any _).mono ?_; rintro e w' ⟨rfl, hb⟩))
        go_ret
        exact ⟨rfl, hb5.trans (hb.mono hb5.size)⟩
    · obtain rfl : j = l.length := by omega
      clear hq
      have hsz := size_any g R rs wr hM
      rw [hrl] at hsz
      have hsz := Lib.hid hsz
      clear hrl
      go_wp2_with (first
        | (go_at_call 12; refine hsz.out.mono ?_; rintro e w' ⟨rfl, rfl⟩)
        | (go_at_call 13; refine (awake_any _).mono ?_; rintro e w' ⟨rfl, hb⟩))
      go_ret
      exact ⟨rfl, hbW.trans (hb.mono hbW.size)⟩
end Go.Proofs.Ytokcohepkajloaa
