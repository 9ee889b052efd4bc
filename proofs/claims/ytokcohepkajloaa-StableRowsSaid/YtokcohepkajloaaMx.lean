/- A matrix of vectors; its calls. -/
import Derived.Test.YtokcohepkajloaaVq
namespace Go.Proofs.Ytokcohepkajloaa
open Go.RowKit
set_option linter.unusedVariables false
set_option linter.unusedSimpArgs false
theorem info_vecb : (Try.prog.info? 27).map (fun i => (i.zero, i.size, i.bytes)) = some (some (vv (List.replicate 64 0)), 64, 512) := by kernel_rfl
/-- make([]T, n), whatever T is. -/
theorem wpList_mkz {P : Program} {w : World} {ops : Array Oper} {rest : List Oper} {o : Oper} {a : Act} {Q : Exit → Act → World → Prop}
    (hg : o.guard = none) (l c : Operand) (t : TypeId) (hop : o.op = Op.makeSlice t l c)
    (e : TypeId) (z : Value) (size bytes : Nat) (ht : P.underlying t = some (.slice e))
    (hinfo : (P.info? e).map (fun i => (i.zero, i.size, i.bytes)) = some (some z, size, bytes))
    (zs : Array Value) (hzs : z.cells = zs) (kl kc : IntKind) (L C : Int) (n k : Nat) (hl : a.eval l = .int kl L) (hc : a.eval c = .int kc C) (hL : L = (n : Int)) (hC : C = (k : Int)) (hnk : n ≤ k) (b2 : bytes * k ≤ 281474976710656) (b3 : k ≤ 9223372036854775807)
    (hK : wpList P ops Q rest (a.put o.dst (.slice (some ⟨w.heap.size, 0, none⟩) n k)) (w.alloc (.cells (madeCells zs (k * size)) e))) :
    wpList P ops Q (o :: rest) a w := by
  refine wpList_plain hg fun K hK' => ?_
  obtain ⟨i, hi, hz, hsize, hby⟩ := info_parts hinfo
  subst hL
  subst hC
  have hr := run_make (P := P) w t e i z ht hi hz kl kc n k (by omega) (by omega) (by rw [hby]; omega) (by omega)
  simp only [Int.toNat_natCast, hsize, hzs] at hr
  unfold Oper.wp
  simp [execOp, hop, hl, hc, hr, Result.andThen]
  exact hK' _ _ hK
/-- A matrix in memory: the box in block g, the rows in block R. -/
structure Mat (w : World) (g R : Nat) (rows : List (List Int)) : Prop where
  box : w.heap[g]? = some (.cells #[.slice (some ⟨R, 0, none⟩) rows.length rows.length] 39 (0, 0))
  wide : ∀ r ∈ rows, r.length = 64
  lies : ∀ i (h : i < rows.length), w.rangeAt R (i * 64) (ic rows[i])
  free : w.there R 0 (rows.length * 64)
  lt : R < g
theorem Mat.below {w w' : World} {g R : Nat} {rows : List (List Int)} (h : Mat w g R rows) (hb : Below w.heap.size w w') : Mat w' g R rows := by
  have hg : g < w.heap.size := (Array.getElem?_eq_some_iff.1 h.box).1
  have hR : R < w.heap.size := Nat.lt_trans h.lt hg
  have hc : ∀ j, w'.cell? ⟨R, j, none⟩ = w.cell? ⟨R, j, none⟩ := fun j => hb.cell hR
  refine ⟨by rw [hb.block g hg]; exact h.box, h.wide, fun i hi j v hv => by rw [hc]; exact h.lies i hi j v hv, fun j hj => ?_, h.lt⟩
  rw [hc]
  refine ⟨(h.free j hj).1, ?_⟩
  rw [World.frozen?_of_block (hb.block R hR)]
  exact (h.free j hj).2
theorem Mat.gcell {w : World} {g R : Nat} {rows : List (List Int)} (h : Mat w g R rows) : w.cell? ⟨g, 0, none⟩ = some (.slice (some ⟨R, 0, none⟩) rows.length rows.length) := by simp [World.cell?, h.box]
theorem made_zero (n j : Nat) (h : j < n * 64) : (madeCells zc (n * 64))[j]? = some (.int .i64 0) := by
  rw [madeCells, Array.getElem?_map, Array.getElem?_range]
  have hs : zc.size = 64 := rfl
  rw [if_pos h, Option.map_some, hs]
  have hm := Nat.mod_lt j (show 0 < 64 by decide)
  generalize j % 64 = k at hm
  rw [getElem!_pos zc k (by rw [hs]; exact hm)]
  have : zc[k]'(by rw [hs]; exact hm) = .int .i64 0 := by
    simp only [zc, ic, List.getElem_toArray, List.getElem_map, List.getElem_replicate]
  rw [this]
theorem mat_new (w w' : World) (n : Nat) (R g : Nat) (hR : w'.heap[R]? = some (.cells (madeCells zc (n * 64)) 27 (0, 0))) (hg : w'.heap[g]? = some (.cells #[.slice (some ⟨R, 0, none⟩) n n] 39 (0, 0))) (hlt : R < g) :
    Mat w' g R (List.replicate n (List.replicate 64 0)) := by
  have hc : ∀ j, j < n * 64 → w'.cell? ⟨R, j, none⟩ = some (.int .i64 0) := fun j hj => by simp only [World.cell?, hR]; exact made_zero n j hj
  refine ⟨by rw [List.length_replicate]; exact hg, fun r hr => by rw [(List.mem_replicate.1 hr).2, List.length_replicate], fun i hi j v hv => ?_, fun j hj => ?_, hlt⟩
  · rw [List.length_replicate] at hi
    rw [List.getElem_replicate, ic, List.getElem?_map, List.getElem?_replicate] at hv
    split at hv
    · rw [Option.map_some, Option.some.injEq] at hv
      rw [hc _ (by omega), hv]
    · cases hv
  · rw [List.length_replicate] at hj
    rw [Nat.zero_add, hc j hj]
    exact ⟨rfl, by simp [World.frozen?, hR]⟩
set_option maxHeartbeats 800000 in
theorem new_any (n : Nat) (w : World) (h1 : 1 ≤ n) (h2 : n ≤ 64) :
    Calls Try.prog 7 #[.int .i64 n] w fun e w' => ∃ g R, e = .returned (.pointer (some ⟨g, 0, none⟩)) ∧ Mat w' g R (List.replicate n (List.replicate 64 0)) ∧ w.heap.size ≤ R ∧ Below w.heap.size w w' := by
  go_enter Try.func7, Try.ntmps7
  go_wp2_with (refine wpList_mkz rfl (.tmp 9) (.tmp 9) 37 rfl 27 _ 64 512 Try.underlying37 info_vecb zc rfl .i64 .i64 _ _ n n rfl rfl rfl rfl (Nat.le_refl _) (by omega) (by omega) ?_)
  go_ret
  refine ⟨_, w.heap.size, rfl, mat_new w _ n _ _ ?_ (heap_alloc2_new _ _ _) (by simp), Nat.le_refl _, ((Below.refl _ _).alloc (Nat.le_refl _) _).alloc (by simp) _⟩
  exact heap_alloc2_old _ _ _
/-- No matrix: none, or one without rows. -/
def Nob (w : World) (p : Option Addr) : Prop := p = none ∨ ∃ g, p = some ⟨g, 0, none⟩ ∧ w.cell? ⟨g, 0, none⟩ = some (.slice none 0 0)
theorem size_nob (p : Option Addr) (w : World) (h : Nob w p) :
    Calls Try.prog 12 #[.pointer p] w fun e w' => e = .returned (.int .i64 0) ∧ w = w' := by
  rcases h with rfl | ⟨g, rfl, h0⟩ <;>
  · go_enter Try.func12, Try.ntmps12
    go_wp2
    go_ret
    exact ⟨rfl, rfl⟩
theorem size_any (g R : Nat) (rows : List (List Int)) (w : World) (h : Mat w g R rows) :
    Calls Try.prog 12 #[.pointer (some ⟨g, 0, none⟩)] w fun e w' => e = .returned (.int .i64 rows.length) ∧ w = w' := by
  have h0 := h.gcell
  go_enter Try.func12, Try.ntmps12
  go_wp2
  go_ret
  exact ⟨rfl, rfl⟩
theorem info_zc : (Try.prog.info? 27).map (·.size) = some zc.size := info_of (l := List.replicate 64 0) (by rw [List.length_replicate])
theorem zc_one : zc.all (·.oneCell') = true := ic_one _
/-- A row that is not there. -/
theorem row_out (p : Option Addr) (n : Nat) (rep : Int) (w : World) (hs : ∀ w', Below w.heap.size w w' → Calls Try.prog 12 #[.pointer p] w' fun e w'' => e = .returned (.int .i64 n) ∧ w' = w'') (hr : rep < 0 ∨ (n : Int) ≤ rep) :
    Calls Try.prog 11 #[.pointer p, .int .i64 rep] w fun e w' => e = .returned (.agg zc) ∧ Below w.heap.size w w' := by
  have HZ := Lib.hid (zero_of_info info_vecz).1
  have HS := Lib.hid hs
  clear hs
  have hiz := Lib.hid info_zc
  have hz1 := Lib.hid zc_one
  by_cases hn : rep < 0
  · go_enter Try.func11, Try.ntmps11
    go_upto_region 1 with fail
    rw [zc_eq]
    have h2 := heap_alloc_new w (.cells zc 27)
    have hb : Below w.heap.size w (w.alloc (.cells zc 27)) := (Below.refl _ _).alloc (Nat.le_refl _) _
    generalize w.alloc (.cells zc 27) = W at h2 hb
    go_wp2_with (refine wpList_store_row rfl 27 _ _ rfl w.heap.size zc rfl rfl 27 _ h2 hiz.out rfl hz1.out ?_)
    refine bodyPost_ret (v := .agg zc) (results_cell_row rfl _ _ w.heap.size 27 _ (0, 0) _ rfl (setRow_heap W _ _ _ _ _ h2) Try.underlying27 rfl hiz.out) rfl ⟨rfl, below_setRow hb (Nat.le_refl _) _⟩
  · go_enter Try.func11, Try.ntmps11
    go_upto_region 1 with fail
    rw [zc_eq]
    have h2 := heap_alloc_new w (.cells zc 27)
    have hb : Below w.heap.size w (w.alloc (.cells zc 27)) := (Below.refl _ _).alloc (Nat.le_refl _) _
    generalize w.alloc (.cells zc 27) = W at h2 hb
    have hge : (n : Int) ≤ rep := by omega
    have hq : decide ((n : Int) ≤ rep) = true := decide_eq_true hge
    go_wp2_with (first
      | (go_at_call 12; refine (HS.out W hb).mono ?_; rintro e w' ⟨rfl, rfl⟩)
      | (refine wpList_store_row rfl 27 _ _ rfl w.heap.size zc rfl rfl 27 _ h2 hiz.out rfl hz1.out ?_))
    refine bodyPost_ret (v := .agg zc) (results_cell_row rfl _ _ w.heap.size 27 _ (0, 0) _ rfl (setRow_heap W _ _ _ _ _ h2) Try.underlying27 rfl hiz.out) rfl ⟨rfl, below_setRow hb (Nat.le_refl _) _⟩
theorem info_row {l : List Int} (h : l.length = 64) : (Try.prog.info? 27).map (·.size) = some (ic l).length := by rw [info_vec, ic, List.length_map, h]
/-- A row that is there. -/
theorem row_in (g R i : Nat) (rows : List (List Int)) (w : World) (h : Mat w g R rows) (hi : i < rows.length) :
    Calls Try.prog 11 #[.pointer (some ⟨g, 0, none⟩), .int .i64 i] w fun e w' => e = .returned (vv rows[i]) ∧ Below w.heap.size w w' := by
  have HZ := Lib.hid (zero_of_info info_vecz).1
  have hrl := h.wide _ (List.getElem_mem hi)
  have hir := Lib.hid (info_row hrl)
  have hia := Lib.hid (info_of hrl)
  have ho := Lib.hid (ic_one rows[i])
  have hzs : Hid (zc.size = (ic rows[i]).toArray.size) := by show _ = _; rw [ic_arr, hrl]; rfl
  unfold vv
  go_enter Try.func11, Try.ntmps11
  go_upto_region 1 with fail
  rw [zc_eq]
  have h2 := heap_alloc_new w (.cells zc 27)
  have hb : Below w.heap.size w (w.alloc (.cells zc 27)) := (Below.refl _ _).alloc (Nat.le_refl _) _
  have hM := h.below hb
  generalize w.alloc (.cells zc 27) = W at h2 hb hM
  have h0 := hM.gcell
  have hL := Lib.hid (hM.lies i hi)
  have hq : decide ((rows.length : Int) ≤ (i : Int)) = false := decide_eq_false (by omega)
  have hi1 : ((i : Nat) : Int) < rows.length := by omega
  generalize hre : rows[i] = r at hir hia ho hzs hL
  have HRe := Lib.hid hre
  clear hrl hre
  go_wp2_with (first
    | (go_at_call 12; refine (size_any g R rows W hM).mono ?_; rintro e w' ⟨rfl, rfl⟩)
    | (refine wpList_load_mid rfl 27 _ rfl R (i * 64) rfl (ic r) _ hL.out Try.underlying27 rfl hir.out ?_)
    | (refine wpList_store_row rfl 27 _ _ rfl w.heap.size (ic r).toArray rfl rfl 27 _ h2 hia.out hzs.out ho.out ?_))
  refine bodyPost_ret (v := .agg (ic r).toArray) (results_cell_row rfl _ _ w.heap.size 27 _ (0, 0) _ rfl (setRow_heap W _ _ _ _ _ h2) Try.underlying27 rfl hia.out) rfl ⟨by rw [HRe.out], below_setRow hb (Nat.le_refl _) _⟩
section
variable {P : Program} {w : World} {ops : Array Oper} {o : Oper} {a : Act} {K : Act → World → Prop} {Q : Exit → Act → World → Prop} {E : Prop}
theorem step_load_mid (hgd : o.guard = none) (ty : TypeId) (x : Operand) (ho : o.op = .load ty x)
    (b i : Nat) (hx : a.eval x = .pointer (some ⟨b, i, none⟩)) (cs : List Value) (d : TypeDesc) (hc : w.rangeAt b i cs)
    (hu : P.underlying ty = some d) (hd : d.isRow = true) (hi : (P.info? ty).map (·.size) = some cs.length)
    (h : K (a.put o.dst (.agg cs.toArray)) w) : if Region.wanted o (yielded ops a.tmps) = true then Oper.wp P o a w K Q else E := by
  rw [if_pos (by simp [Region.wanted, hgd])]
  exact wp_load_mid ty x ho b i hx cs d hc hu hd hi h
theorem step_store_mid (hgd : o.guard = none) (ty : TypeId) (x y : Operand) (ho : o.op = .store ty x y)
    (b i : Nat) (cells : Array Value) (hx : a.eval x = .pointer (some ⟨b, i, none⟩)) (hy : a.eval y = .agg cells)
    (ht : w.there b i cells.size) (hi : (P.info? ty).map (·.size) = some cells.size) (h1 : cells.all (·.oneCell') = true)
    (h : K (a.put o.dst undef) (w.setCells b i cells.toList)) : if Region.wanted o (yielded ops a.tmps) = true then Oper.wp P o a w K Q else E := by
  rw [if_pos (by simp [Region.wanted, hgd])]
  exact wp_store_mid ty x y ho b i cells hx hy ht hi h1 h
end
theorem setCells_other (b : Nat) : ∀ (vs : List Value) (o : Nat) (w : World) (k : Nat), k ≠ b → (w.setCells b o vs).heap[k]? = w.heap[k]?
  | [], _, _, _, _ => rfl
  | v :: r, o, w, k, h => by rw [World.setCells, setCells_other b r (o + 1) _ k h, heap_setCell_other _ _ _ _ h]
theorem setCells_size (b : Nat) : ∀ (vs : List Value) (o : Nat) (w : World), (w.setCells b o vs).heap.size = w.heap.size
  | [], _, _ => rfl
  | v :: r, o, w => by rw [World.setCells, setCells_size b r (o + 1)]; simp [World.setCell]
theorem setCells_same (b : Nat) : ∀ (vs : List Value) (o : Nat) (w : World), (w.setCells b o vs).os = w.os ∧ (w.setCells b o vs).tape = w.tape ∧ (w.setCells b o vs).output = w.output
  | [], _, _ => ⟨rfl, rfl, rfl⟩
  | v :: r, o, w => by rw [World.setCells]; exact setCells_same b r (o + 1) _
theorem grownBy_setCells (w : World) (b o : Nat) (vs : List Value) : w.grownBy (w.setCells b o vs) (some b) :=
  ⟨(setCells_same b vs o w).1, (setCells_same b vs o w).2.1, (setCells_same b vs o w).2.2, Nat.le_of_eq (setCells_size b vs o w).symm, fun k _ hk => setCells_other b vs o w k (fun e => hk (by rw [e]))⟩
/-- A row of a matrix, written. -/
theorem Mat.put {w : World} {g R : Nat} {rows : List (List Int)} (h : Mat w g R rows) (i : Nat) (hi : i < rows.length) (r : List Int) (hr : r.length = 64) : Mat (w.setCells R (i * 64) (ic r)) g R (rows.set i r) := by
  have hl := ic_size r
  refine ⟨by rw [setCells_other _ _ _ _ _ (by have := h.lt; omega), List.length_set]; exact h.box, fun x hx => ?_, fun j hj => ?_, by rw [List.length_set]; exact World.there_setCells h.free _ _ _, h.lt⟩
  · rcases List.mem_or_eq_of_mem_set hx with hx | hx
    · exact h.wide x hx
    · rw [hx]; exact hr
  · rw [List.length_set] at hj
    by_cases e : i = j
    · subst e
      rw [List.getElem_set_self]
      refine World.rangeAt_setCells_same w R _ _ (fun k hk => ?_)
      have := h.free (i * 64 + k) (by rw [hl, hr] at hk; omega)
      rwa [Nat.zero_add] at this
    · rw [List.getElem_set_ne e]
      refine World.rangeAt_setCells_apart (h.lies j hj) _ _ _ (.inr ?_)
      rw [ic_size, hl, hr, h.wide _ (List.getElem_mem hj)]
      omega
end Go.Proofs.Ytokcohepkajloaa
