/- Who lacks something. -/
import Derived.Test.YtokcohepkajloaaRc
namespace Go.Proofs.Ytokcohepkajloaa
open Go.RowKit
set_option linter.unusedVariables false
set_option linter.unusedSimpArgs false
theorem info_i64 : (Try.prog.info? 3).map (fun i => (i.zero, i.size, i.bytes)) = some (some (.int .i64 0), 1, 8) := by kernel_rfl
/-- Numbers that the call itself made. -/
def OI (w : World) (base : Nat) (v : Value) (l : List Int) : Prop := w.ownsRow base 3 1 v l.length (l.map (Value.int .i64))
theorem OI.form {w : World} {base : Nat} {v : Value} {l : List Int} (h : OI w base v l) : ∃ A c, v = .slice A l.length c ∧ l.length ≤ c ∧ (A = none → c = 0) := by
  rcases h.2 with ⟨rfl, h0⟩ | ⟨g, cap, cur, rfl, _, _, h, _⟩
  · exact ⟨_, _, by rw [h0], by omega, fun _ => rfl⟩
  · exact ⟨_, _, rfl, h, fun h => by cases h⟩
theorem OI.below {w w' : World} {base : Nat} {v : Value} {l : List Int} (h : OI w base v l) (hb : Below w.heap.size w w') : OI w' base v l := by
  refine World.ownsRow.kept h (row := none) ⟨hb.os, hb.tape, hb.output, hb.size, fun k hk _ => hb.block k hk⟩ ?_
  cases v.ownBlock <;> simp
theorem OI.mk {w : World} {base n : Nat} {v : Value} {xs : List Value} {l : List Int} (h : w.ownsRow base 3 1 v n xs) (hn : n = l.length) (hx : xs = l.map (Value.int .i64)) : OI w base v l := by
  subst hn
  subst hx
  exact h
theorem OI.mono {w : World} {base base' : Nat} {v : Value} {l : List Int} (h : OI w base v l) (hb : base' ≤ base) : OI w base' v l := by
  refine ⟨h.1, ?_⟩
  rcases h.2 with h | ⟨g, cap, cur, hv, hg, r⟩
  · exact .inl h
  · exact .inr ⟨g, cap, cur, hv, Nat.le_trans hb hg, r⟩
/-- Of the first j rows those that a vector is not within. -/
def lack (v : List Int) (rows : List (List Int)) (j : Nat) : List Int := ((List.range j).filter (fun k => !inb v (rows[k]?.getD []))).map (fun k : Nat => (k : Int))
theorem lack_zero (v : List Int) (rows : List (List Int)) : lack v rows 0 = [] := rfl
theorem lack_in (v : List Int) (rows : List (List Int)) (j : Nat) (hj : j < rows.length) (h : inb v rows[j] = true) : lack v rows (j + 1) = lack v rows j := by
  unfold lack
  rw [List.range_succ, List.filter_append, List.map_append]
  simp [List.getElem?_eq_getElem hj, h]
theorem lack_out (v : List Int) (rows : List (List Int)) (j : Nat) (hj : j < rows.length) (h : inb v rows[j] = false) : lack v rows (j + 1) = lack v rows j ++ [(j : Int)] := by
  unfold lack
  rw [List.range_succ, List.filter_append, List.map_append]
  simp [List.getElem?_eq_getElem hj, h]
theorem lack_length (v : List Int) (rows : List (List Int)) (j : Nat) : (lack v rows j).length ≤ j := by
  unfold lack
  rw [List.length_map]
  exact Nat.le_trans (List.length_filter_le _ _) (by simp)
set_option maxHeartbeats 1600000 in
theorem lacks_any (g R : Nat) (rows : List (List Int)) (v : List Int) (w : World) (h : Mat w g R rows) (hn64 : rows.length ≤ 64) (hv : v.length = 64) :
    Calls Try.prog 14 #[.pointer (some ⟨g, 0, none⟩), vv v] w fun e w' => ∃ o, e = .returned o ∧ OI w' w.heap.size o (lack v rows rows.length) ∧ Below w.heap.size w w' := by
  have HLv := fun r => lack_length v rows r
  have HV := Lib.hid hv
  clear hv
  go_enter Try.func14, Try.ntmps14
  unfold vv
  go_upto_region 1 with fail
  have hb : Below w.heap.size w (w.alloc (.cells (ic v).toArray 27)) := (Below.refl _ _).alloc (Nat.le_refl _) _
  have hv0 : (w.alloc (.cells (ic v).toArray 27)).rangeAt w.heap.size 0 (ic v) := by
    intro j x hx
    simp only [World.cell?, heap_alloc_new, Nat.zero_add, List.getElem?_toArray]
    exact hx
  have hM := h.below hb
  have hqs : w.heap.size < (w.alloc (.cells (ic v).toArray 27)).heap.size := by simp
  generalize w.alloc (.cells (ic v).toArray 27) = W at hb hM hv0 hqs
  have hV := Lib.hid hv0
  clear hv0
  go_wp2_with (go_at_call 12; refine (size_any g R rows W hM).mono ?_; rintro e w' ⟨rfl, rfl⟩)
  go_loopg [5, 9] rows.length (fun r o i wr => ∃ j : Nat, j + r = rows.length ∧ i = .int .i64 j ∧ OI wr W.heap.size o (lack v rows j) ∧ Below W.heap.size W wr)
  case atStart => exact ⟨0, by omega, rfl, by rw [lack_zero]; exact World.ownsRow_nil _ _ _ _, Below.refl _ _⟩
  case round =>
    obtain ⟨j, hj, rfl, ho, hbr⟩ := hrel
    have HMW := Lib.hid (hM.below (hbr.drew))
    have hVr := Lib.hid (range_below hV.out hbr.drew)
    by_cases hjn : j < rows.length
    · have hlj := HLv j
      have hrl := HMW.out.wide _ (List.getElem_mem hjn)
      have h0 := (hM.below hbr).gcell
      have hL := Lib.hid (HMW.out.lies j hjn)
      have HD := fun w => dwithin_any v rows[j] w HV.out hrl
      have HIn := Lib.hid (lack_in v rows j hjn)
      have HOut := Lib.hid (lack_out v rows j hjn)
      unfold vv at HD
      have HD := Lib.hid HD
      generalize inb v rows[j] = z at HD HIn HOut
      obtain ⟨ag, hag⟩ : ∃ ag : Sem Bool, ag = isAgg 27 := ⟨_, rfl⟩
      obtain ⟨so, hso⟩ : ∃ so : Sem Nat, so = sizeOf 27 := ⟨_, rfl⟩
      obtain ⟨N, hN⟩ : ∃ N : Nat, N = 64 := ⟨_, rfl⟩
      have hag1 : isAgg 27 = ag := hag.symm
      have hso1 : sizeOf 27 = so := hso.symm
      have hag2 : ∀ w, ag.run Try.prog w = .ok true w := fun w => by rw [hag]; exact Try.isAgg27 w
      have hso2 : ∀ w, so.run Try.prog w = .ok N w := fun w => by rw [hso, hN]; exact Try.sizeOf27 w
      have hl2 : (loadCellsFrom ⟨R, j * N, none⟩ 0 N #[]).run Try.prog wr.drew = .ok (ic rows[j]).toArray wr.drew := by
        have := run_loadCells_list (P := Try.prog) wr.drew ⟨R, j * 64, none⟩ (ic rows[j]) (fun y x hy => by rw [Addr.add_mid]; exact hL.out y x hy)
        rw [ic_size, hrl] at this
        rw [hN]
        exact this
      have hl3 : (loadCellsFrom ⟨w.heap.size, 0, none⟩ 0 N #[]).run Try.prog wr.drew = .ok (ic v).toArray wr.drew := by
        have := run_loadCells_list (P := Try.prog) wr.drew ⟨w.heap.size, 0, none⟩ (ic v) (fun y x hy => by rw [Addr.add_mid]; exact hVr.out y x hy)
        rw [ic_size, HV.out] at this
        rw [hN]
        exact this
      clear hag hso hN hrl hL hVr
      generalize rows[j] = x at HD hl2
      have hj1 : ((j : Nat) : Int) < rows.length := by omega
      have hod := ho.below ((Below.refl _ _).drew)
      have hbd : Below W.heap.size W wr.drew := hbr.drew
      clear ho hbr HMW
      have HMax := Lib.hid hn64
      go_wp2_with fail
      cases z with
      | true =>
        have HIx := Lib.hid (HIn.out rfl)
        clear HOut HIn
        go_region_law (first | (go_simp; go_at_call 25; refine (HD.out _).mono ?_; rintro e w2 ⟨rfl, hb2⟩))
        all_goals
          go_wp2
          go_roundg (rows.length - (j + 1))
          case measure => omega
          case rel => exact ⟨j + 1, by omega, by go_num, by rw [HIx.out]; exact hod.below hb2, hbd.trans (hb2.mono hbd.size)⟩
      | false =>
        have e : lack v rows (j + 1) = lack v rows j ++ [(j : Int)] := HOut.out rfl
        have HE := Lib.hid e
        have hlen := hlj
        clear e hlj HIn HOut
        generalize lack v rows j = l at hod HE hlen
        have hol := hod
        unfold OI at hol
        obtain ⟨A1, c1, rfl, hl1, hA1⟩ := hod.form
        go_region_law (first | (go_simp; go_at_call 25; refine (HD.out _).mono ?_; rintro e w2 ⟨rfl, hb2⟩))
        all_goals
          have ho2 := OI.below hod hb2
          unfold OI at ho2
          have hb02 := hbd.trans (hb2.mono hbd.size)
          clear hod hol h0 hl2 hl3
          go_wp2_with (at_builtin; (refine wpList_app _ rfl _ _ 41 rfl W.heap.size 3 _ 1 8 Try.underlying41 info_i64 rfl (by decide) _ _ _ rfl (World.ownsRow.alloc ho2 _) (some ⟨w2.heap.size, 0, none⟩) 1 1 [.int .i64 j] rfl rfl (Lies.new w2 3 _ (0, 0)) (by intro u hu; cases List.mem_singleton.1 hu; rfl) (by simp) ?c1 ?c2 ?c3 ?_))
          case c1 => rw [show maxLen = 9223372036854775807 from rfl]; omega
          case c2 => omega
          case c3 => have := hb02.size; simp; omega
          intro v3 w3 hown3 hg3 _
          have ho3 : OI w3 W.heap.size v3 (l ++ [(j : Int)]) := OI.mk hown3 (by simp) (by simp)
          have hb3 : Below W.heap.size W w3 := (hb02.alloc hb02.size _).grown hg3 (by have := hb02.size; simp; omega) (by intro k hk; exact (World.ownsRow.lt ho2 k hk).1)
          clear hown3 hg3 ho2
          go_wp2
          go_roundg (rows.length - (j + 1))
          case measure => omega
          case rel => exact ⟨j + 1, by omega, by go_num, by rw [HE.out]; exact ho3, hb3⟩
    · obtain rfl : j = rows.length := by omega
      go_wp2
      go_ret
      exact ⟨_, rfl, ho.mono hb.size, hb.trans (hbr.mono hb.size)⟩
end Go.Proofs.Ytokcohepkajloaa
