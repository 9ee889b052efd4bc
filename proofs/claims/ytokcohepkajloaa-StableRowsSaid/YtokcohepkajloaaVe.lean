/- Arrays of 64 whole numbers, by value (vectors); dots' each, Join, Meet, Within. -/
import Derived.Test.YtokcohepkajloaaChecked
import Derived.Test.YtokcohepkajloaaBase
import Derived.Test.YtokcohepkajloaaLaws
import Derived.WalkLawsBesides
import Derived.WalkSpells
import Derived.Outline
import Derived.LoopTactic
import Derived.Lib.Hide
import Derived.Deep.LoopGhost
import Derived.Deep.RegionLaw
import Derived.Deep.AppendLies
import Derived.Deep.MidRow
import Derived.Deep.WholeRow
import Derived.BigRegion
import Derived.BigQuiet
import Derived.Deep.QuietTactic
import Derived.Deep.Cut
namespace Go.Proofs.Ytokcohepkajloaa
open Go.RowKit
set_option linter.unusedVariables false
set_option linter.unusedSimpArgs false
/-- Numbers as cells; as an array. -/
def ic (l : List Int) : List Value := l.map (Value.int .i64)
def vv (l : List Int) : Value := .agg (ic l).toArray
theorem info_vec : (Try.prog.info? 27).map (·.size) = some 64 := by kernel_rfl
theorem info_vecz : (Try.prog.info? 27).map (fun i => (i.zero, i.size)) = some (some (vv (List.replicate 64 0)), 64) := by kernel_rfl
theorem ic_size (l : List Int) : (ic l).length = l.length := by simp [ic]
/-- The zero array's cells. -/
def zc : Array Value := (ic (List.replicate 64 0)).toArray
theorem ic_arr (l : List Int) : (ic l).toArray.size = l.length := by simp [ic]
theorem info_of {l : List Int} (h : l.length = 64) : (Try.prog.info? 27).map (·.size) = some (ic l).toArray.size := by rw [info_vec, ic_arr, h]
theorem ic_one (l : List Int) : (ic l).toArray.all (·.oneCell') = true := by
  refine all_oneCell_toArray fun v hv => ?_
  obtain ⟨x, _, rfl⟩ := List.mem_map.1 hv
  rfl
theorem zc_eq : (#[.int .i64 0, .int .i64 0, .int .i64 0, .int .i64 0, .int .i64 0, .int .i64 0, .int .i64 0, .int .i64 0, .int .i64 0, .int .i64 0, .int .i64 0, .int .i64 0, .int .i64 0, .int .i64 0, .int .i64 0, .int .i64 0, .int .i64 0, .int .i64 0, .int .i64 0, .int .i64 0, .int .i64 0, .int .i64 0, .int .i64 0, .int .i64 0, .int .i64 0, .int .i64 0, .int .i64 0, .int .i64 0, .int .i64 0, .int .i64 0, .int .i64 0, .int .i64 0, .int .i64 0, .int .i64 0, .int .i64 0, .int .i64 0, .int .i64 0, .int .i64 0, .int .i64 0, .int .i64 0, .int .i64 0, .int .i64 0, .int .i64 0, .int .i64 0, .int .i64 0, .int .i64 0, .int .i64 0, .int .i64 0, .int .i64 0, .int .i64 0, .int .i64 0, .int .i64 0, .int .i64 0, .int .i64 0, .int .i64 0, .int .i64 0, .int .i64 0, .int .i64 0, .int .i64 0, .int .i64 0, .int .i64 0, .int .i64 0, .int .i64 0, .int .i64 0] : Array Value) = zc := rfl
theorem below_setRow {B : Nat} {a w : World} {g : Nat} (h : Below B a w) (hg : B ≤ g) (cs : Array Value) : Below B a (w.setRow g cs) :=
  h.trans ⟨rfl, rfl, rfl, by simp [World.setRow], fun k hk => setRow_other w g k cs (by omega)⟩
/-- So far: of the first j numbers of both the operation's, then the first array's. -/
def mix (op : Int → Int → Int) (a b : List Int) (j : Nat) : List Int := List.zipWith op (a.take j) (b.take j) ++ a.drop j
theorem mix_zero (op : Int → Int → Int) (a b : List Int) : mix op a b 0 = a := by simp [mix]
theorem mix_get {op : Int → Int → Int} {a b : List Int} {j : Nat} (ha : j < a.length) (hb : j < b.length) : (ic (mix op a b j)).toArray[j]? = some (.int .i64 a[j]) := by
  have hl : (List.zipWith op (a.take j) (b.take j)).length = j := by rw [List.length_zipWith, List.length_take, List.length_take]; omega
  rw [List.getElem?_toArray, ic, List.getElem?_map, mix, List.getElem?_append_right (by omega), hl, Nat.sub_self, List.getElem?_drop, Nat.add_zero, List.getElem?_eq_getElem ha]
  rfl
theorem mix_set {op : Int → Int → Int} {a b : List Int} {j : Nat} (ha : j < a.length) (hb : j < b.length) : (ic (mix op a b j)).toArray.setIfInBounds j (.int .i64 (op a[j] b[j])) = (ic (mix op a b (j + 1))).toArray := by
  have hl : (List.zipWith op (a.take j) (b.take j)).length = j := by rw [List.length_zipWith, List.length_take, List.length_take]; omega
  rw [List.setIfInBounds_toArray]
  congr 1
  rw [ic, ← List.map_set]
  congr 1
  rw [mix, List.set_append_right _ _ (by omega), hl, Nat.sub_self, List.drop_eq_getElem_cons ha, List.set_cons_zero, mix, List.take_succ_eq_append_getElem ha, List.take_succ_eq_append_getElem hb, List.zipWith_append (by rw [List.length_take, List.length_take]; omega), List.append_assoc]
  rfl
theorem mix_end {op : Int → Int → Int} {a b : List Int} {n : Nat} (ha : a.length = n) (hb : b.length = n) : mix op a b n = List.zipWith op a b := by
  rw [mix, List.take_of_length_le (by omega), List.take_of_length_le (by omega), List.drop_of_length_le (by omega), List.append_nil]
set_option maxHeartbeats 1600000 in
theorem each_any (F : FuncId) (op : Int → Int → Int) (he : ∀ args w, (callFunc F args).run Try.prog w = .ok (.enter F args) w) (hcl : ∀ x y w, Calls Try.prog F #[.int .i64 x, .int .i64 y] w fun e w' => e = .returned (.int .i64 (op x y)) ∧ w = w') (a b : List Int) (w : World) (ha : a.length = 64) (hb : b.length = 64) :
    Calls Try.prog 31 #[vv a, vv b, .func (.func F) #[] #[]] w fun e w' => e = .returned (vv (List.zipWith op a b)) ∧ Below w.heap.size w w' := by
  have HA := Lib.hid ha
  have HB := Lib.hid hb
  have HC := Lib.hid hcl
  clear ha hb hcl
  go_enter Try.func31, Try.ntmps31
  unfold vv
  go_wp2_with fail
  rw [zc_eq]
  generalize hW : ((w.alloc (.cells (ic a).toArray 27)).alloc (.cells (ic b).toArray 27)).alloc (.cells zc 27) = W
  have h0 : W.heap[w.heap.size]? = some (.cells (ic (mix op a b 0)).toArray 27 (0, 0)) := by subst hW; rw [mix_zero, heap_alloc_old _ _ (by simp; omega), heap_alloc2_old]
  have h1 : W.heap[w.heap.size + 1]? = some (.cells (ic b).toArray 27 (0, 0)) := by subst hW; rw [heap_alloc_old _ _ (by simp), heap_alloc2_new]
  have h2 : W.heap[w.heap.size + 1 + 1]? = some (.cells zc 27 (0, 0)) := by subst hW; have := heap_alloc_new ((w.alloc (.cells (ic a).toArray 27)).alloc (.cells (ic b).toArray 27)) (.cells zc 27); simpa using this
  have hbW : Below w.heap.size w W := by subst hW; exact (((Below.refl _ _).alloc (Nat.le_refl _) _).alloc (by simp) _).alloc (by simp; omega) _
  clear hW
  go_loopg [8] 64 (fun r i wr => ∃ j : Nat, j + r = 64 ∧ i = .int .i64 j ∧ wr.heap[w.heap.size]? = some (.cells (ic (mix op a b j)).toArray 27 (0, 0)) ∧ wr.heap[w.heap.size + 1]? = some (.cells (ic b).toArray 27 (0, 0)) ∧ wr.heap[w.heap.size + 1 + 1]? = some (.cells zc 27 (0, 0)) ∧ Below w.heap.size w wr)
  case atStart => exact ⟨0, by omega, rfl, h0, h1, h2, hbW⟩
  case round =>
    clear h0 h1 h2 hbW
    obtain ⟨j, hj, rfl, h0, h1, h2, hbW⟩ := hrel
    by_cases hj64 : j < 64
    · have hc0 : wr.cell? ⟨w.heap.size, j, none⟩ = some (.int .i64 (a[j]'(by rw [HA.out]; exact hj64))) := by simp only [World.cell?, h0]; exact mix_get (by rw [HA.out]; exact hj64) (by rw [HB.out]; exact hj64)
      have hc1 : wr.cell? ⟨w.heap.size + 1, j, none⟩ = some (.int .i64 (b[j]'(by rw [HB.out]; exact hj64))) := by simp only [World.cell?, h1]; rw [List.getElem?_toArray, ic, List.getElem?_map, List.getElem?_eq_getElem (by rw [HB.out]; exact hj64)]; rfl
      have hf : wr.frozen? ⟨w.heap.size, j, none⟩ = false := by simp [World.frozen?, h0]
      have HM := Lib.hid (mix_set (op := op) (a := a) (b := b) (j := j) (by rw [HA.out]; exact hj64) (by rw [HB.out]; exact hj64))
      have H0 := Lib.hid h0
      have H1 := Lib.hid h1
      have H2 := Lib.hid h2
      clear h0 h1 h2
      generalize a[j]'(by rw [HA.out]; exact hj64) = x at hc0 HM
      generalize b[j]'(by rw [HB.out]; exact hj64) = y at hc1 HM
      have hj1 : ((j : Nat) : Int) < 64 := by omega
      go_wp2_with fail
      go_region_with (refine (HC.out _ _ _).mono ?_; rintro e w' ⟨rfl, rfl⟩)
      all_goals
        have hw1 : Below w.heap.size w ((wr.setCell ⟨w.heap.size, j, none⟩ (.int .i64 (op x y))).drew) := (hbW.setCell (p := ⟨w.heap.size, j, none⟩) (Nat.le_refl _) _).drew
        have k0 : ((wr.setCell ⟨w.heap.size, j, none⟩ (.int .i64 (op x y))).drew).heap[w.heap.size]? = some (.cells (ic (mix op a b (j + 1))).toArray 27 (0, 0)) := by
          rw [heap_drew, heap_setCell_same _ _ _ _ _ _ H0.out, HM.out]
        have k1 : ((wr.setCell ⟨w.heap.size, j, none⟩ (.int .i64 (op x y))).drew).heap[w.heap.size + 1]? = some (.cells (ic b).toArray 27 (0, 0)) := by
          rw [heap_drew, heap_setCell_other _ _ _ _ (show w.heap.size + 1 ≠ w.heap.size by omega)]; exact H1.out
        have k2 : ((wr.setCell ⟨w.heap.size, j, none⟩ (.int .i64 (op x y))).drew).heap[w.heap.size + 1 + 1]? = some (.cells zc 27 (0, 0)) := by
          rw [heap_drew, heap_setCell_other _ _ _ _ (show w.heap.size + 1 + 1 ≠ w.heap.size by omega)]; exact H2.out
        generalize (wr.setCell ⟨w.heap.size, j, none⟩ (.int .i64 (op x y))).drew = w5 at hw1 k0 k1 k2
        clear hc0 hc1 hf
        go_wp2
        go_roundg (64 - (j + 1))
        case measure => omega
        case rel => exact ⟨j + 1, by omega, by go_num, k0, k1, k2, hw1⟩
    · obtain rfl : j = 64 := by omega
      rw [mix_end HA.out HB.out] at h0
      have hzl : (List.zipWith op a b).length = 64 := by rw [List.length_zipWith, HA.out, HB.out]; rfl
      generalize hzz : List.zipWith op a b = z at h0 hzl
      have HZZ := Lib.hid hzz
      clear hzz
      have hi := info_of hzl
      have h1c := ic_one z
      have hzs : zc.size = (ic z).toArray.size := by rw [ic_arr, hzl]; rfl
      clear hzl
      go_wp2_with (first
        | (refine wpList_load_row rfl 27 _ rfl w.heap.size rfl 27 _ (0, 0) _ h0 Try.underlying27 rfl hi ?_)
        | (refine wpList_store_row rfl 27 _ _ rfl (w.heap.size + 1 + 1) (ic z).toArray rfl rfl 27 _ h2 hi hzs h1c ?_))
      refine bodyPost_ret (v := .agg (ic z).toArray) (results_cell_row rfl _ _ (w.heap.size + 1 + 1) 27 _ (0, 0) _ rfl (setRow_heap wr _ _ _ _ _ h2) Try.underlying27 rfl hi) rfl ⟨by rw [HZZ.out], below_setRow hbW (by omega) _⟩
end Go.Proofs.Ytokcohepkajloaa
