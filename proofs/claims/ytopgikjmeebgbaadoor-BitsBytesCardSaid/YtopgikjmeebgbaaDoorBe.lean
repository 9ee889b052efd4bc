/- A set made; how many are set. -/
import Derived.Test.YtopgikjmeebgbaaDoorBd
namespace Go.Proofs.YtopgikjmeebgbaaDoor
open Go.RowKit
set_option linter.unusedVariables false
set_option linter.unusedSimpArgs false
theorem info_u64 : (Tryd.prog.info? 60).map (fun i => (i.zero, i.size, i.bytes)) = some (some (.int .u64 0), 1, 8) := by kernel_rfl
/-- make([]T, n), whatever T is. -/
theorem wpList_mkz {P : Program} {w : World} {ops : Array Oper} {rest : List Oper} {o : Oper} {a : Act} {Q : Exit → Act → World → Prop}
    (hg : o.guard = none) (l c : Operand) (t : TypeId) (hop : o.op = Op.makeSlice t l c)
    (e : TypeId) (z : Value) (size bytes : Nat) (ht : P.underlying t = some (.slice e))
    (hinfo : (P.info? e).map (fun i => (i.zero, i.size, i.bytes)) = some (some z, size, bytes))
    (zs : Array Value) (hzs : z.cells = zs) (kl kc : IntKind) (L C : Int) (n k : Nat) (hl : a.eval l = .int kl L) (hc : a.eval c = .int kc C) (hL : L = (n : Int)) (hC : C = (k : Int)) (hnk : n ≤ k) (b2 : bytes * k ≤ 281474976710656) (b3 : k ≤ 9223372036854775807)
    (hK : wpList P ops Q rest (a.put o.dst (.slice (some ⟨w.heap.size, 0, none⟩) n k)) (w.alloc (.cells (madeCells zs (k * size)) e))) :
    wpList P ops Q (o :: rest) a w := by
  refine wpList_plain hg fun K hK' => ?_
  obtain ⟨i, hi, hz, hsize, hby⟩ := info_parts hinfo
  subst hL
  subst hC
  have hr := run_make (P := P) w t e i z ht hi hz kl kc n k (by omega) (by omega) (by rw [hby]; omega) (by omega)
  simp only [Int.toNat_natCast, hsize, hzs] at hr
  unfold Oper.wp
  simp [execOp, hop, hl, hc, hr, Result.andThen]
  exact hK' _ _ hK
theorem made_one (z : Value) (n j : Nat) (h : j < n) : (madeCells #[z] n)[j]? = some z := by
  rw [madeCells, Array.getElem?_map, Array.getElem?_range, if_pos (by omega)]
  simp [Nat.mod_one]
theorem set_new (w' : World) (m W g N : Nat) (hN : N = nw m) (hW : w'.heap[W]? = some (.cells (madeCells #[.int .u64 0] N) 60 (0, 0))) (hg : w'.heap[g]? = some (.cells #[.int .i64 m, .slice (some ⟨W, 0, none⟩) (nw m) (nw m), .bool true] 41 (0, 0))) (hlt : W < g) (hm : m ≤ 65536) :
    SetAt w' g W (List.replicate m false) := by
  refine ⟨by rw [List.length_replicate]; exact hg, fun k hk => ?_, fun k hk => ?_, hlt, by rw [List.length_replicate]; exact hm⟩
  · rw [List.length_replicate] at hk
    rw [wd_false]
    simp only [World.cell?, hW]
    exact made_one _ _ _ (by omega)
  · simp [World.frozen?, hW]
/-- The size that a set gets. -/
def clip (n : Int) : Nat := (min (max n 0) 65536).toNat
set_option maxHeartbeats 800000 in
theorem new_any (n : Int) (w : World) :
    Calls Tryd.prog 10 #[.int .i64 n] w fun e w' => ∃ g W, e = .returned (.pointer (some ⟨g, 0, none⟩)) ∧ SetAt w' g W (List.replicate (clip n) false) ∧ w.heap.size ≤ W ∧ Below w.heap.size w w' := by
  have key : ∀ (m : Nat) (bs : List Bool), m = clip n → Hid (bs = List.replicate m false) → Calls Tryd.prog 10 #[.int .i64 n] w fun e w' => ∃ g W, e = .returned (.pointer (some ⟨g, 0, none⟩)) ∧ SetAt w' g W bs ∧ w.heap.size ≤ W ∧ Below w.heap.size w w' := by
    intro m bs hm HB
    unfold clip at hm
    obtain ⟨N, hN⟩ : ∃ N, N = nw m := ⟨_, rfl⟩
    have hN2 : N = (m + 63) / 64 := hN
    by_cases h1 : n < 0
    · obtain rfl : m = 0 := by omega
      clear hm
      go_enter Tryd.func10, Tryd.ntmps10
      go_wp2_with (refine wpList_mkz rfl (.tmp 10) (.tmp 10) 39 rfl 60 _ 1 8 Tryd.underlying39 info_u64 #[.int .u64 0] rfl .i64 .i64 _ _ N N rfl rfl (by omega) (by omega) (Nat.le_refl _) (by omega) (by omega) ?_)
      go_ret
      first | refine ⟨_, w.heap.size, rfl, ?_, Nat.le_refl _, ((Below.refl _ _).alloc (Nat.le_refl _) _).alloc (by simp) _⟩ | refine ⟨_, rfl, w.heap.size, ?_, Nat.le_refl _, ((Below.refl _ _).alloc (Nat.le_refl _) _).alloc (by simp) _⟩
      rw [HB.out]
      subst hN
      exact set_new _ _ w.heap.size _ _ (by first | rfl | exact Nat.mul_one _) (heap_alloc2_old _ _ _) (heap_alloc2_new _ _ _) (by simp) (by omega)
    · by_cases h2 : 65536 < n
      · have hm5 : m = 65536 := by omega
        have hN5 : N = 1024 := by omega
        clear hm hN2
        have HM := Lib.hid hm5
        have HN := Lib.hid hN
        clear hm5 hN
        subst hN5
        go_enter Tryd.func10, Tryd.ntmps10
        go_wp2_with (refine wpList_mkz rfl (.tmp 10) (.tmp 10) 39 rfl 60 _ 1 8 Tryd.underlying39 info_u64 #[.int .u64 0] rfl .i64 .i64 _ _ 1024 1024 rfl rfl (by omega) (by omega) (Nat.le_refl _) (by omega) (by omega) ?_)
        go_ret
        first | refine ⟨_, w.heap.size, rfl, ?_, Nat.le_refl _, ((Below.refl _ _).alloc (Nat.le_refl _) _).alloc (by simp) _⟩ | refine ⟨_, rfl, w.heap.size, ?_, Nat.le_refl _, ((Below.refl _ _).alloc (Nat.le_refl _) _).alloc (by simp) _⟩
        rw [HB.out]
        have e1 := HM.out
        have e2 := HN.out
        clear HB
        refine set_new _ m w.heap.size _ _ e2 (heap_alloc2_old _ _ _) ?_ (by simp) (by omega)
        · rw [← e2, show (m : Int) = 65536 by omega]; exact heap_alloc2_new _ _ _
      · obtain rfl : n = (m : Int) := by omega
        have hm64 : m ≤ 65536 := by omega
        clear hm h1
        have hm0 : (0 : Int) ≤ (m : Int) := by omega
        go_enter Tryd.func10, Tryd.ntmps10
        go_wp2_with (refine wpList_mkz rfl (.tmp 10) (.tmp 10) 39 rfl 60 _ 1 8 Tryd.underlying39 info_u64 #[.int .u64 0] rfl .i64 .i64 _ _ N N rfl rfl (by omega) (by omega) (Nat.le_refl _) (by omega) (by omega) ?_)
        go_ret
        first | refine ⟨_, w.heap.size, rfl, ?_, Nat.le_refl _, ((Below.refl _ _).alloc (Nat.le_refl _) _).alloc (by simp) _⟩ | refine ⟨_, rfl, w.heap.size, ?_, Nat.le_refl _, ((Below.refl _ _).alloc (Nat.le_refl _) _).alloc (by simp) _⟩
        rw [HB.out]
        subst hN
        exact set_new _ _ w.heap.size _ _ (by first | rfl | exact Nat.mul_one _) (heap_alloc2_old _ _ _) (heap_alloc2_new _ _ _) (by simp) (by omega)
  exact key _ _ rfl rfl
end Go.Proofs.YtopgikjmeebgbaaDoor
