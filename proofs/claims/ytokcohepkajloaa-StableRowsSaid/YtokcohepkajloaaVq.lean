/- Arrays of whole numbers, compared; dots' Join, Meet, Within. -/
import Derived.Test.YtokcohepkajloaaVe
import Derived.Laws.StructEq
import Derived.Shelf.Abstract
namespace Go.Proofs.Ytokcohepkajloaa
open Go.RowKit
set_option linter.unusedVariables false
set_option linter.unusedSimpArgs false
theorem run_part_ic {P : Program} (w : World) (e : TypeId) (hag : (isAgg e).run P w = .ok false w) (l : List Int) (i : Nat) (hi : i < l.length) : (part e (ic l).toArray i).run P w = .ok (.int .i64 l[i]) w := by
  unfold part
  have : (ic l).toArray[i]? = some (.int .i64 l[i]) := by rw [List.getElem?_toArray, ic, List.getElem?_map, List.getElem?_eq_getElem hi]; rfl
  simp [Sem.run_bind, hag, this]
theorem run_equalIn_vec {P : Program} (w : World) (d : Nat) (t e : TypeId) (n : Nat) (a b : List Int) (ht : P.underlying t = some (.array n e)) (he : P.underlying e = some (.int .i64))
    (hag : ∀ w, (isAgg e).run P w = .ok false w) (hsz : ∀ w, (sizeOf e).run P w = .ok 1 w) (ha : a.length = n) (hb : b.length = n) :
    (Op.equalIn (d + 2) t (vv a) (vv b)).run P w = .ok (a == b) w := by
  unfold vv
  rw [Op.equalIn]
  simp only [Sem.run_bind, run_underlying ht, Result.andThen_ok, hsz, Nat.mul_one, Std.Legacy.Range.forIn_eq_forIn_range', Std.Legacy.Range.size]
  have key : ∀ k i, i + k = n → ∀ w, (forIn (m := Sem) (List.range' i k) ((none, ()) : Option Bool × Unit) fun i r => do
      if (!(← Op.equalIn (d + 1) e (← part e (ic a).toArray i) (← part e (ic b).toArray i))) = true then pure (ForInStep.done (some false, ())) else pure (ForInStep.yield (none, ()))).run P w = .ok (if a.drop i = b.drop i then (none, ()) else (some false, ())) w := by
    intro k
    induction k with
    | zero =>
      intro i hi w
      rw [List.drop_of_length_le (by omega), List.drop_of_length_le (by omega)]
      simp
    | succ k ih =>
      intro i hi w
      have hia : i < a.length := by omega
      have hib : i < b.length := by omega
      rw [List.range'_succ, List.forIn_cons, List.drop_eq_getElem_cons hia, List.drop_eq_getElem_cons hib]
      simp only [Sem.run_bind, run_part_ic _ e (hag _) a i hia, run_part_ic _ e (hag _) b i hib, Result.andThen_ok, run_equalIn_int _ _ _ _ _ _ _ he]
      have h := ih (i + 1) (by omega) w
      clear ih
      generalize a[i] = x
      generalize b[i] = y
      generalize a.drop (i + 1) = u at h ⊢
      generalize b.drop (i + 1) = v at h ⊢
      by_cases hab : x = y
      · subst hab
        simp only [beq_self_eq_true, Bool.not_true, Bool.false_eq_true, if_false, Sem.run_pure, Result.andThen_ok, List.cons.injEq, true_and]
        exact h
      · have : (x == y) = false := beq_eq_false_iff_ne.mpr hab
        simp only [this, Bool.not_false, if_true, Sem.run_pure, Result.andThen_ok, List.cons.injEq, hab, false_and, if_false]
  have h0 := key n 0 (by omega) w
  rw [List.drop_zero, List.drop_zero] at h0
  have e1 : (n - 0 + 1 - 1) / 1 = n := by simp
  rw [e1, h0]
  by_cases hab : a = b
  · subst hab; simp
  · simp [hab]
theorem eqv (w : World) (a b : List Int) (ha : a.length = 64) (hb : b.length = 64) : (binOp .eql 27 (vv a) (vv b)).run Try.prog w = .ok (.bool (a == b)) w := by
  unfold vv
  rw [run_eql_struct]
  have := run_equalIn_vec (P := Try.prog) w 9998 27 3 64 a b Try.underlying27 Try.underlying3 Try.isAgg3 Try.sizeOf3 ha hb
  unfold vv at this
  rw [this]
  rfl
theorem nev (w : World) (a b : List Int) (ha : a.length = 64) (hb : b.length = 64) : (binOp .neq 27 (vv a) (vv b)).run Try.prog w = .ok (.bool (a != b)) w := by
  unfold vv
  rw [run_neq_struct]
  have := run_equalIn_vec (P := Try.prog) w 9998 27 3 64 a b Try.underlying27 Try.underlying3 Try.isAgg3 Try.sizeOf3 ha hb
  unfold vv at this
  rw [this]
  rfl
/-- Of each place the greater one, the smaller one. -/
def joinv (a b : List Int) : List Int := List.zipWith max a b
def meetv (a b : List Int) : List Int := List.zipWith min a b
theorem joinv_length {a b : List Int} (ha : a.length = 64) (hb : b.length = 64) : (joinv a b).length = 64 := by rw [joinv, List.length_zipWith, ha, hb]; rfl
theorem meetv_length {a b : List Int} (ha : a.length = 64) (hb : b.length = 64) : (meetv a b).length = 64 := by rw [meetv, List.length_zipWith, ha, hb]; rfl
theorem maxf_any (x y : Int) (w : World) : Calls Try.prog 33 #[.int .i64 x, .int .i64 y] w fun e w' => e = .returned (.int .i64 (max x y)) ∧ w = w' := by
  go_enter Try.func33, Try.ntmps33
  go_wp2
  all_goals go_ret
  all_goals exact ⟨ret_int (by omega), rfl⟩
theorem minf_any (x y : Int) (w : World) : Calls Try.prog 32 #[.int .i64 x, .int .i64 y] w fun e w' => e = .returned (.int .i64 (min x y)) ∧ w = w' := by
  go_enter Try.func32, Try.ntmps32
  go_wp2
  all_goals go_ret
  all_goals exact ⟨ret_int (by omega), rfl⟩
theorem eachmax (a b : List Int) (w : World) (ha : a.length = 64) (hb : b.length = 64) :
    Calls Try.prog 31 #[vv a, vv b, .func (.func 33) #[] #[]] w fun e w' => e = .returned (vv (joinv a b)) ∧ Below w.heap.size w w' :=
  each_any 33 max (fun args w => enters_of Try.func33 (by kernel_rfl) rfl args w) maxf_any a b w ha hb
theorem eachmin (a b : List Int) (w : World) (ha : a.length = 64) (hb : b.length = 64) :
    Calls Try.prog 31 #[vv a, vv b, .func (.func 32) #[] #[]] w fun e w' => e = .returned (vv (meetv a b)) ∧ Below w.heap.size w w' :=
  each_any 32 min (fun args w => enters_of Try.func32 (by kernel_rfl) rfl args w) minf_any a b w ha hb
set_option maxHeartbeats 800000 in
theorem join_any (a b : List Int) (w : World) (ha : a.length = 64) (hb : b.length = 64) :
    Calls Try.prog 24 #[vv a, vv b] w fun e w' => e = .returned (vv (joinv a b)) ∧ Below w.heap.size w w' := by
  have hjl := joinv_length ha hb
  have hia := info_of ha
  have hib := info_of hb
  have hij := info_of hjl
  have hj1 := ic_one (joinv a b)
  have hzs : zc.size = (ic (joinv a b)).toArray.size := by rw [ic_arr, hjl]; rfl
  have HE := fun w => eachmax a b w ha hb
  unfold vv at HE
  have HE := Lib.hid HE
  generalize joinv a b = z at hij hj1 hzs HE ⊢
  clear hjl
  have HZ := Lib.hid (zero_of_info info_vecz).1
  go_enter Try.func24, Try.ntmps24
  unfold vv
  go_upto_region 1 with fail
  rw [zc_eq]
  generalize hW : ((w.alloc (.cells (ic a).toArray 27)).alloc (.cells (ic b).toArray 27)).alloc (.cells zc 27) = W
  have h0 : W.heap[w.heap.size]? = some (.cells (ic a).toArray 27 (0, 0)) := by subst hW; rw [heap_alloc_old _ _ (by simp; omega), heap_alloc2_old]
  have h1 : W.heap[w.heap.size + 1]? = some (.cells (ic b).toArray 27 (0, 0)) := by subst hW; rw [heap_alloc_old _ _ (by simp), heap_alloc2_new]
  have h2 : W.heap[w.heap.size + 1 + 1]? = some (.cells zc 27 (0, 0)) := by subst hW; have := heap_alloc_new ((w.alloc (.cells (ic a).toArray 27)).alloc (.cells (ic b).toArray 27)) (.cells zc 27); simpa using this
  have hbW : Below w.heap.size w W := by subst hW; exact (((Below.refl _ _).alloc (Nat.le_refl _) _).alloc (by simp) _).alloc (by simp; omega) _
  have hsz : w.heap.size + 1 + 1 < W.heap.size := by subst hW; simp
  clear hW
  go_wp2_with (first
    | (refine wpList_load_row rfl 27 (.tmp 2) rfl w.heap.size rfl 27 _ (0, 0) _ h0 Try.underlying27 rfl hia ?_)
    | (refine wpList_load_row rfl 27 (.tmp 3) rfl (w.heap.size + 1) rfl 27 _ (0, 0) _ h1 Try.underlying27 rfl hib ?_)
    | (go_at_call 31; refine (HE.out _).mono ?_; rintro e w2 ⟨rfl, hb2⟩; have h2' := (hb2.block _ hsz).trans h2; have hb3 := hbW.trans (hb2.mono hbW.size))
    | (refine wpList_store_row rfl 27 _ _ rfl (w.heap.size + 1 + 1) (ic z).toArray rfl rfl 27 _ h2' hij hzs hj1 ?_))
  refine bodyPost_ret (v := .agg (ic z).toArray) (results_cell_row rfl _ _ (w.heap.size + 1 + 1) 27 _ (0, 0) _ rfl (setRow_heap w2 _ _ _ _ _ h2') Try.underlying27 rfl hij) rfl ⟨rfl, below_setRow hb3 (by omega) _⟩
set_option maxHeartbeats 800000 in
theorem meet_any (a b : List Int) (w : World) (ha : a.length = 64) (hb : b.length = 64) :
    Calls Try.prog 23 #[vv a, vv b] w fun e w' => e = .returned (vv (meetv a b)) ∧ Below w.heap.size w w' := by
  have hjl := meetv_length ha hb
  have hia := info_of ha
  have hib := info_of hb
  have hij := info_of hjl
  have hj1 := ic_one (meetv a b)
  have hzs : zc.size = (ic (meetv a b)).toArray.size := by rw [ic_arr, hjl]; rfl
  have HE := fun w => eachmin a b w ha hb
  unfold vv at HE
  have HE := Lib.hid HE
  generalize meetv a b = z at hij hj1 hzs HE ⊢
  clear hjl
  have HZ := Lib.hid (zero_of_info info_vecz).1
  go_enter Try.func23, Try.ntmps23
  unfold vv
  go_upto_region 1 with fail
  rw [zc_eq]
  generalize hW : ((w.alloc (.cells (ic a).toArray 27)).alloc (.cells (ic b).toArray 27)).alloc (.cells zc 27) = W
  have h0 : W.heap[w.heap.size]? = some (.cells (ic a).toArray 27 (0, 0)) := by subst hW; rw [heap_alloc_old _ _ (by simp; omega), heap_alloc2_old]
  have h1 : W.heap[w.heap.size + 1]? = some (.cells (ic b).toArray 27 (0, 0)) := by subst hW; rw [heap_alloc_old _ _ (by simp), heap_alloc2_new]
  have h2 : W.heap[w.heap.size + 1 + 1]? = some (.cells zc 27 (0, 0)) := by subst hW; have := heap_alloc_new ((w.alloc (.cells (ic a).toArray 27)).alloc (.cells (ic b).toArray 27)) (.cells zc 27); simpa using this
  have hbW : Below w.heap.size w W := by subst hW; exact (((Below.refl _ _).alloc (Nat.le_refl _) _).alloc (by simp) _).alloc (by simp; omega) _
  have hsz : w.heap.size + 1 + 1 < W.heap.size := by subst hW; simp
  clear hW
  go_wp2_with (first
    | (refine wpList_load_row rfl 27 (.tmp 2) rfl w.heap.size rfl 27 _ (0, 0) _ h0 Try.underlying27 rfl hia ?_)
    | (refine wpList_load_row rfl 27 (.tmp 3) rfl (w.heap.size + 1) rfl 27 _ (0, 0) _ h1 Try.underlying27 rfl hib ?_)
    | (go_at_call 31; refine (HE.out _).mono ?_; rintro e w2 ⟨rfl, hb2⟩; have h2' := (hb2.block _ hsz).trans h2; have hb3 := hbW.trans (hb2.mono hbW.size))
    | (refine wpList_store_row rfl 27 _ _ rfl (w.heap.size + 1 + 1) (ic z).toArray rfl rfl 27 _ h2' hij hzs hj1 ?_))
  refine bodyPost_ret (v := .agg (ic z).toArray) (results_cell_row rfl _ _ (w.heap.size + 1 + 1) 27 _ (0, 0) _ rfl (setRow_heap w2 _ _ _ _ _ h2') Try.underlying27 rfl hij) rfl ⟨rfl, below_setRow hb3 (by omega) _⟩
end Go.Proofs.Ytokcohepkajloaa
