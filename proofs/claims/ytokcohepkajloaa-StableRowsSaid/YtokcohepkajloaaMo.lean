/- The law of a matrix that no call made; an array that came in. -/
import Derived.Test.YtokcohepkajloaaMw
import Derived.Test.YtokcohepkajloaaRow
import Derived.WideShapes
namespace Go.Proofs.Ytokcohepkajloaa
open Go.RowKit Go.WideShapes
set_option linter.unusedVariables false
set_option linter.unusedSimpArgs false
theorem open_vec {P : Program} {W : World} {base : Nat} {t e : TypeId} {n : Nat} {v : Value} (hu : P.underlying t = some (.array n e)) (he : P.underlying e = some (.int .i64)) (hct : P.cellTypes P.depth t = some (List.replicate n e)) (hcc : P.cellsOf t = n)
    (h : Value.okWide P W .any base t v) : ∃ l : List Int, v = vv l ∧ l.length = n := by
  simp only [Value.okWide, hu] at h
  obtain ⟨cs, rfl, hs, ts, hts, _, hc⟩ := h
  rw [hct] at hts
  injection hts with hts
  subst hts
  rw [hcc] at hs
  have key : ∀ i (hi : i < cs.size), ∃ x, cs[i] = Value.int .i64 x := by
    intro i hi
    obtain ⟨u, hu2, hk⟩ := hc i cs[i] (Array.getElem?_eq_getElem hi)
    rw [List.getElem?_replicate] at hu2
    split at hu2
    · injection hu2 with hu2
      subst hu2
      have : Value.okWide P W .any base e cs[i] := by simp only [Value.okWide, he]; exact hk
      obtain ⟨x, hx⟩ := okWide_int he this
      exact ⟨x, hx⟩
    · cases hu2
  refine ⟨cs.toList.map (fun v => match v with | .int _ x => x | _ => 0), ?_, by simp [hs]⟩
  unfold vv ic
  congr 1
  apply Array.ext
  · simp
  · intro i h1 h2
    obtain ⟨x, hx⟩ := key i h1
    simp [hx]
theorem range_below {w w' : World} {b o : Nat} {cs : List Value} (h : w.rangeAt b o cs) (hb : Below w.heap.size w w') : w'.rangeAt b o cs := fun j v hv => by
  have hc := h j v hv
  have hlt := World.block_lt_of_cell? w _ hc
  rw [hb.cell hlt]; exact hc
theorem lits0 : (#[.int .i64 0, .int .i64 0, .int .i64 0, .int .i64 0, .int .i64 0, .int .i64 0, .int .i64 0, .int .i64 0, .int .i64 0, .int .i64 0, .int .i64 0, .int .i64 0, .int .i64 0, .int .i64 0, .int .i64 0, .int .i64 0, .int .i64 0, .int .i64 0, .int .i64 0, .int .i64 0, .int .i64 0, .int .i64 0, .int .i64 0, .int .i64 0, .int .i64 0, .int .i64 0, .int .i64 0, .int .i64 0, .int .i64 0, .int .i64 0, .int .i64 0, .int .i64 0, .int .i64 0, .int .i64 0, .int .i64 0, .int .i64 0, .int .i64 0, .int .i64 0, .int .i64 0, .int .i64 0, .int .i64 0, .int .i64 0, .int .i64 0, .int .i64 0, .int .i64 0, .int .i64 0, .int .i64 0, .int .i64 0, .int .i64 0, .int .i64 0, .int .i64 0, .int .i64 0, .int .i64 0, .int .i64 0, .int .i64 0, .int .i64 0, .int .i64 0, .int .i64 0, .int .i64 0, .int .i64 0, .int .i64 0, .int .i64 0, .int .i64 0, .int .i64 0] : Array Value) = zc := rfl
theorem eqz (w : World) : (Op.equalIn 10000 27 (.agg zc) (.agg #[.int .i64 0, .int .i64 0, .int .i64 0, .int .i64 0, .int .i64 0, .int .i64 0, .int .i64 0, .int .i64 0, .int .i64 0, .int .i64 0, .int .i64 0, .int .i64 0, .int .i64 0, .int .i64 0, .int .i64 0, .int .i64 0, .int .i64 0, .int .i64 0, .int .i64 0, .int .i64 0, .int .i64 0, .int .i64 0, .int .i64 0, .int .i64 0, .int .i64 0, .int .i64 0, .int .i64 0, .int .i64 0, .int .i64 0, .int .i64 0, .int .i64 0, .int .i64 0, .int .i64 0, .int .i64 0, .int .i64 0, .int .i64 0, .int .i64 0, .int .i64 0, .int .i64 0, .int .i64 0, .int .i64 0, .int .i64 0, .int .i64 0, .int .i64 0, .int .i64 0, .int .i64 0, .int .i64 0, .int .i64 0, .int .i64 0, .int .i64 0, .int .i64 0, .int .i64 0, .int .i64 0, .int .i64 0, .int .i64 0, .int .i64 0, .int .i64 0, .int .i64 0, .int .i64 0, .int .i64 0, .int .i64 0, .int .i64 0, .int .i64 0, .int .i64 0])).run Try.prog w = .ok true w := by
  have := run_equalIn_vec (P := Try.prog) w 9998 27 3 64 (List.replicate 64 0) (List.replicate 64 0) Try.underlying27 Try.underlying3 Try.isAgg3 Try.sizeOf3 (by decide) (by decide)
  rw [beq_self_eq_true] at this
  exact this
theorem nob_below {w w' : World} {p : Option Addr} (h : Nob w p) (hb : Below w.heap.size w w') : Nob w' p := by
  rcases h with rfl | ⟨g, rfl, h0⟩
  · exact .inl rfl
  · exact .inr ⟨g, rfl, by rw [hb.cell (World.block_lt_of_cell? w _ h0)]; exact h0⟩
theorem stable_nob (p : Option Addr) (w : World) (h : Nob w p) :
    Calls Try.prog 8 #[.pointer p] w fun e w' => e = .returned (.agg zc) ∧ Below w.heap.size w w' := by
  have HZ := Lib.hid (zero_of_info info_vecz).1
  have hiz := Lib.hid info_zc
  have hz1 := Lib.hid zc_one
  go_enter Try.func8, Try.ntmps8
  go_upto_region 1 with fail
  rw [zc_eq]
  have h2 := heap_alloc_new w (.cells zc 27)
  have hb : Below w.heap.size w (w.alloc (.cells zc 27)) := (Below.refl _ _).alloc (Nat.le_refl _) _
  have hN := nob_below h hb
  generalize w.alloc (.cells zc 27) = W at h2 hb hN
  go_wp2_with (first
    | (go_at_call 12; refine (size_nob p W hN).mono ?_; rintro e w' ⟨rfl, rfl⟩)
    | (refine wpList_store_row rfl 27 _ _ rfl w.heap.size zc rfl rfl 27 _ h2 hiz.out rfl hz1.out ?_))
  refine bodyPost_ret (v := .agg zc) (results_cell_row rfl _ _ w.heap.size 27 _ (0, 0) _ rfl (setRow_heap W _ _ _ _ _ h2) Try.underlying27 rfl hiz.out) rfl ⟨rfl, below_setRow hb (Nat.le_refl _) _⟩
theorem lacks_nob (p : Option Addr) (v : List Int) (w : World) (h : Nob w p) :
    Calls Try.prog 14 #[.pointer p, vv v] w fun e w' => e = .returned (.slice none 0 0) ∧ Below w.heap.size w w' := by
  have hb : Below w.heap.size w (w.alloc (.cells (ic v).toArray 27)) := (Below.refl _ _).alloc (Nat.le_refl _) _
  have hN := nob_below h hb
  go_enter Try.func14, Try.ntmps14
  unfold vv
  go_wp2_with (go_at_call 12; refine (size_nob p _ hN).mono ?_; rintro e w' ⟨rfl, rfl⟩)
  go_loopg [5, 9] 0 (fun r l i wr => wr = w.alloc (.cells (ic v).toArray 27) ∧ l = .slice none 0 0 ∧ i = .int .i64 0)
  case atStart => exact ⟨rfl, rfl, rfl⟩
  case round =>
    obtain ⟨rfl, rfl, rfl⟩ := hrel
    go_wp2
    go_ret
    exact ⟨rfl, hb⟩
theorem rel_calls {P : Program} {f : FuncId} {args : Array Value} {x : Value} {W w' : World} (hb : Below W.heap.size W w') (h : Calls P f args w' fun e w'' => e = .returned x ∧ Below w'.heap.size w' w'') :
    Calls P f args w' fun e w'' => e = .returned x ∧ Below W.heap.size W w'' := h.mono fun e w'' ⟨h1, h2⟩ => ⟨h1, hb.trans (h2.mono hb.size)⟩
theorem nobs (p : Option Addr) (rep : Int) (v : List Int) (W : World) (h : Nob W p) (hv : v.length = 64) :
    (∀ w', Below W.heap.size W w' → Calls Try.prog 12 #[.pointer p] w' fun e w'' => e = .returned (.int .i64 0) ∧ Below W.heap.size W w'')
    ∧ (∀ w', Below W.heap.size W w' → Calls Try.prog 9 #[.pointer p, .int .i64 rep, vv v] w' fun e w'' => e = .returned (.bool false) ∧ Below W.heap.size W w'')
    ∧ (∀ w', Below W.heap.size W w' → Calls Try.prog 11 #[.pointer p, .int .i64 rep] w' fun e w'' => e = .returned (.agg zc) ∧ Below W.heap.size W w'')
    ∧ (∀ w', Below W.heap.size W w' → Calls Try.prog 8 #[.pointer p] w' fun e w'' => e = .returned (.agg zc) ∧ Below W.heap.size W w'')
    ∧ (∀ w', Below W.heap.size W w' → Calls Try.prog 14 #[.pointer p, vv v] w' fun e w'' => e = .returned (.slice none 0 0) ∧ Below W.heap.size W w'') := by
  refine ⟨fun w' hb => ?_, fun w' hb => ?_, fun w' hb => ?_, fun w' hb => ?_, fun w' hb => ?_⟩
  · exact (size_nob p w' (nob_below h hb)).mono fun e w'' ⟨h1, h2⟩ => ⟨h1, by rw [← h2]; exact hb⟩
  · exact rel_calls hb (note_out p 0 rep v w' hv (fun w'' hb2 => size_nob p w'' (nob_below (nob_below h hb) hb2)) (by omega))
  · exact rel_calls hb (row_out p 0 rep w' (fun w'' hb2 => size_nob p w'' (nob_below (nob_below h hb) hb2)) (by omega))
  · exact rel_calls hb (stable_nob p w' (nob_below h hb))
  · exact rel_calls hb (lacks_nob p v w' (nob_below h hb))
set_option maxHeartbeats 1600000 in
theorem stableNobody_walk (rep : Int) (v : List Int) (w : World) (hw : (Lit.int .i64 rep).wf = true) (hv : v.length = 64) :
    Calls Try.prog 4 #[.int .i64 rep, vv v] w fun e w' => e = .returned (.bool true) ∧ Below w.heap.size w w' := by
  obtain ⟨ag, hag⟩ : ∃ ag : Sem Bool, ag = isAgg 27 := ⟨_, rfl⟩
  obtain ⟨so, hso⟩ : ∃ so : Sem Nat, so = sizeOf 27 := ⟨_, rfl⟩
  obtain ⟨N, hN⟩ : ∃ N : Nat, N = 64 := ⟨_, rfl⟩
  have hag1 : isAgg 27 = ag := hag.symm
  have hso1 : sizeOf 27 = so := hso.symm
  have hag2 : ∀ w, ag.run Try.prog w = .ok true w := fun w => by rw [hag]; exact Try.isAgg27 w
  have hso2 : ∀ w, so.run Try.prog w = .ok N w := fun w => by rw [hso, hN]; exact Try.sizeOf27 w
  have hl2 : ∀ (b : Nat) (w' : World), w'.rangeAt b 0 (ic v) → (loadCellsFrom ⟨b, 0, none⟩ 0 N #[]).run Try.prog w' = .ok (ic v).toArray w' := by
    intro b w' hr
    have := run_loadCells_list (P := Try.prog) w' ⟨b, 0, none⟩ (ic v) (fun j x hj => by rw [Addr.add_mid]; exact hr j x hj)
    rw [ic_size, hv] at this
    rw [hN]
    exact this
  have hez := eqz
  have heg := guard_vec
  clear hag hso hN
  go_enter Try.func4, Try.ntmps4
  unfold vv
  go_wp2_with fail
  generalize hW : ((w.alloc (.cells (ic v).toArray 27)).alloc (.cells #[.slice none 0 0] 39)).alloc (.cells #[.pointer none, .pointer (some ⟨w.heap.size + 1, 0, none⟩)] 24) = W
  have hc0 : W.cell? ⟨w.heap.size + 1 + 1, 0, none⟩ = some (.pointer none) := by subst hW; go_cell
  have hc1 : W.cell? ⟨w.heap.size + 1 + 1, 1, none⟩ = some (.pointer (some ⟨w.heap.size + 1, 0, none⟩)) := by subst hW; go_cell
  have hg0 : W.cell? ⟨w.heap.size + 1, 0, none⟩ = some (.slice none 0 0) := by subst hW; go_cell
  have hbW : Below w.heap.size w W := by subst hW; exact (((Below.refl _ _).alloc (Nat.le_refl _) _).alloc (by simp) _).alloc (by simp; omega) _
  have hr0 : W.rangeAt w.heap.size 0 (ic v) := by
    subst hW
    refine World.rangeAt_alloc (World.rangeAt_alloc ?_ _) _
    intro j x hx
    simp only [World.cell?, heap_alloc_new, Nat.zero_add, List.getElem?_toArray]
    exact hx
  clear hW
  have HR := Lib.hid (fun w' (hb : Below W.heap.size W w') => range_below hr0 hb)
  have HC0 := Lib.hid (fun w' (hb : Below W.heap.size W w') => (show w'.cell? ⟨w.heap.size + 1 + 1, 0, none⟩ = some (.pointer none) by rw [hb.cell (World.block_lt_of_cell? W _ hc0)]; exact hc0))
  have HC1 := Lib.hid (fun w' (hb : Below W.heap.size W w') => (show w'.cell? ⟨w.heap.size + 1 + 1, 1, none⟩ = some (.pointer (some ⟨w.heap.size + 1, 0, none⟩)) by rw [hb.cell (World.block_lt_of_cell? W _ hc1)]; exact hc1))
  have C := fun p (h : Nob W p) => nobs p rep v W h hv
  have hn0 : Nob W none := .inl rfl
  have hn1 : Nob W (some ⟨w.heap.size + 1, 0, none⟩) := .inr ⟨_, rfl, hg0⟩
  have CA := C _ hn0
  have CB := C _ hn1
  unfold vv at CA CB
  have CA := Lib.hid CA
  have CB := Lib.hid CB
  clear C hn0 hn1 hc0 hc1 hg0 hr0
  go_loopg [6, 11] 2 (fun r p i wr => Below W.heap.size W wr ∧ ∃ j : Nat, j + r = 2 ∧ i = .int .i64 j)
  case atStart => exact ⟨Below.refl _ _, 0, by omega, rfl⟩
  case round =>
    obtain ⟨hbr, j, hj, rfl⟩ := hrel
    have hrr := HR.out wr hbr
    obtain rfl | rfl | rfl : j = 0 ∨ j = 1 ∨ j = 2 := by omega
    · have hcc := HC0.out wr hbr
      have C1 := Lib.hid CA.out.1
      have C2 := Lib.hid CA.out.2.1
      have C3 := Lib.hid CA.out.2.2.1
      have C4 := Lib.hid CA.out.2.2.2.1
      have C5 := Lib.hid CA.out.2.2.2.2
      go_wp2_with (first | (go_at_call 12; refine (C1.out _ (by assumption)).mono ?_; rintro e w' ⟨rfl, hbw⟩; have hrw := HR.out w' hbw) | (go_at_call 9; refine (C2.out _ (by assumption)).mono ?_; rintro e w' ⟨rfl, hbw⟩; have hrw := HR.out w' hbw) | (go_at_call 11; refine (C3.out _ (by assumption)).mono ?_; rintro e w' ⟨rfl, hbw⟩; have hrw := HR.out w' hbw) | (go_at_call 8; refine (C4.out _ (by assumption)).mono ?_; rintro e w' ⟨rfl, hbw⟩; have hrw := HR.out w' hbw) | (go_at_call 14; refine (C5.out _ (by assumption)).mono ?_; rintro e w' ⟨rfl, hbw⟩; have hrw := HR.out w' hbw))
      go_roundg 1
      case measure => omega
      case rel => exact ⟨by assumption, 1, by omega, rfl⟩
    · have hcc := HC1.out wr hbr
      have C1 := Lib.hid CB.out.1
      have C2 := Lib.hid CB.out.2.1
      have C3 := Lib.hid CB.out.2.2.1
      have C4 := Lib.hid CB.out.2.2.2.1
      have C5 := Lib.hid CB.out.2.2.2.2
      go_wp2_with (first | (go_at_call 12; refine (C1.out _ (by assumption)).mono ?_; rintro e w' ⟨rfl, hbw⟩; have hrw := HR.out w' hbw) | (go_at_call 9; refine (C2.out _ (by assumption)).mono ?_; rintro e w' ⟨rfl, hbw⟩; have hrw := HR.out w' hbw) | (go_at_call 11; refine (C3.out _ (by assumption)).mono ?_; rintro e w' ⟨rfl, hbw⟩; have hrw := HR.out w' hbw) | (go_at_call 8; refine (C4.out _ (by assumption)).mono ?_; rintro e w' ⟨rfl, hbw⟩; have hrw := HR.out w' hbw) | (go_at_call 14; refine (C5.out _ (by assumption)).mono ?_; rintro e w' ⟨rfl, hbw⟩; have hrw := HR.out w' hbw))
      go_roundg 0
      case measure => omega
      case rel => exact ⟨by assumption, 2, by omega, rfl⟩
    · go_wp2_with (go_at_call 13; refine (awake_any _).mono ?_; rintro e w' ⟨rfl, hb⟩)
      go_ret
      exact ⟨rfl, (hbW.trans (hbr.mono hbW.size)).trans (hb.mono (hbW.trans (hbr.mono hbW.size)).size)⟩
end Go.Proofs.Ytokcohepkajloaa
