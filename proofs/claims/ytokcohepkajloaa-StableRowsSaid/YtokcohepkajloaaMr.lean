/- A slice of what was heard, that came in. -/
import Derived.Test.YtokcohepkajloaaMt
import Derived.Test.YtokcohepkajloaaRow
import Derived.Deep.Slices
import Derived.Deep.Fields
import Derived.ChangeSame
namespace Go.Proofs.Ytokcohepkajloaa
open Go.ChangeShapes Go.WideShapes Go.ChangeAt Go.RowKit Go.Deep
set_option linter.unusedVariables false
set_option linter.unusedSimpArgs false
theorem flat_length : ∀ (l : List (Int × List Int)), (∀ h ∈ l, h.2.length = 64) → (l.flatMap hc).length = l.length * 65
  | [], _ => rfl
  | h :: l, hv => by
    have h1 : (hc h).length = 65 := by rw [hc, List.length_cons, ic_size, hv h List.mem_cons_self]
    rw [List.flatMap_cons, List.length_append, h1, flat_length l (fun x hx => hv x (List.mem_cons_of_mem _ hx)), List.length_cons]
    omega
theorem lies_heard {w : World} {a : Addr} {l : List (Int × List Int)} (hv : ∀ h ∈ l, h.2.length = 64) (h : ∀ i (hi : i < l.length) k v, (hc l[i])[k]? = some v → w.cell? ((a.add (i * 65)).add k) = some v) : Lies w (some a) (l.flatMap hc) := by
  intro K v hK
  have hlt : K < l.length * 65 := by rw [← flat_length l hv]; exact (List.getElem?_eq_some_iff.1 hK).1
  have hi : K / 65 < l.length := by omega
  have hk : K % 65 < 65 := Nat.mod_lt _ (by decide)
  have e : K = K / 65 * 65 + K % 65 := by omega
  rw [e, flat_at l _ _ hi hv hk] at hK
  have := h _ hi _ _ hK
  rw [Addr.add_add, ← e] at this
  exact ⟨a, rfl, this⟩
def vi : Value → Int
  | .int _ x => x
  | _ => 0
section
variable {H : Type} {enc : TypeId × Value → H} {P : Program} {W : World} {base : Nat} {spare : Nat → Bool} {held : Bool} {t e ta te : TypeId}
theorem heard_of {fuel : Nat} {cs : List Value} {x : DataW H × List MemPlace} {fs : Array Field} (he : P.underlying e = some (.struct fs)) {f0 f1 : Field} (hf0 : fs[0]? = some f0) (hf1 : fs[1]? = some f1)
    (h00 : P.underlying f0.type = some (.int .i64)) (h01 : f0.offset = 0) (h02 : P.cellsOf f0.type = 1) (h10 : P.underlying f1.type = some (.array 64 te)) (h11 : f1.offset = 1) (h12 : P.cellsOf f1.type = 64) (h13 : P.underlying te = some (.int .i64)) (h14 : P.cellsOf te = 1)
    (hl : cs.length = 65) (h : DataW.trod enc P W base spare held fuel e cs = some x) : ∃ p : Int × List Int, p.2.length = 64 ∧ cs = hc p := by
  obtain ⟨ys, n', hn', hy, hlen, hyl, hf⟩ := DataW.trod_struct he h
  have k0 := hf 0 f0 hf0
  have k1 := hf 1 f1 hf1
  rw [h01, h02] at k0
  rw [h11, h12] at k1
  have hs0 : 0 < ys.length := by rw [hyl]; exact (Array.getElem?_eq_some_iff.1 hf0).1
  have hs1 : 1 < ys.length := by rw [hyl]; exact (Array.getElem?_eq_some_iff.1 hf1).1
  rw [List.getElem?_eq_getElem hs0] at k0
  rw [List.getElem?_eq_getElem hs1] at k1
  obtain ⟨n0, e0, _, _⟩ := DataW.trod_int h00 k0
  obtain ⟨xs, m, _, _, _, hxl, hxi⟩ := DataW.trod_array h10 k1
  rw [List.drop_zero] at e0
  have hC : List.take 64 (List.drop 1 cs) = List.drop 1 cs := List.take_of_length_le (by rw [List.length_drop]; omega)
  rw [hC] at hxi
  have hCl : (List.drop 1 cs).length = 64 := by rw [List.length_drop]; omega
  have key : ∀ i (hi : i < (List.drop 1 cs).length), ∃ n, (List.drop 1 cs)[i] = Value.int .i64 n := by
    intro i hi
    have := hxi i (by omega)
    rw [h14, Nat.mul_one, List.getElem?_eq_getElem (by omega)] at this
    obtain ⟨n, e, _, _⟩ := DataW.trod_int h13 this
    refine ⟨n, ?_⟩
    have h2 : ((List.drop 1 cs).drop i).take 1 = [(List.drop 1 cs)[i]] := by rw [List.drop_eq_getElem_cons hi]; rfl
    rw [h2] at e
    exact List.head_eq_of_cons_eq e
  refine ⟨(n0, (List.drop 1 cs).map vi), by simp; omega, ?_⟩
  have hD : List.drop 1 cs = ic ((List.drop 1 cs).map vi) := by
    refine List.ext_getElem (by simp [ic]) fun i h1 h2 => ?_
    obtain ⟨n, hn⟩ := key i h1
    simp only [ic, List.getElem_map, hn, vi]
  rw [hc, ← hD, ← List.singleton_append, ← e0, List.take_append_drop]
theorem open_heard {a : Option Addr} {len cap : Nat} {d : DataW H} {ps : List MemPlace} {fs : Array Field} (hu : P.underlying t = some (.slice e)) (he : P.underlying e = some (.struct fs)) {f0 f1 : Field} (hf0 : fs[0]? = some f0) (hf1 : fs[1]? = some f1)
    (h00 : P.underlying f0.type = some (.int .i64)) (h01 : f0.offset = 0) (h02 : P.cellsOf f0.type = 1) (h10 : P.underlying f1.type = some (.array 64 te)) (h11 : f1.offset = 1) (h12 : P.cellsOf f1.type = 64) (h13 : P.underlying te = some (.int .i64)) (h14 : P.cellsOf te = 1) (hce : P.cellsOf e = 65)
    (h : DataW.Trod enc P W base spare held t (.slice a len cap) d ps) :
    ∃ l : List (Int × List Int), l.length = len ∧ Lies W a (l.flatMap hc) ∧ (a = none → cap = 0) ∧ len ≤ cap ∧ (∀ h ∈ l, h.2.length = 64) ∧ len ≤ 9223372036854775807 := by
  obtain ⟨fuel, hf⟩ := h
  rcases open_slice hu hf with ⟨hcs, _⟩ | ⟨x, l, c, m, n, D, Pl, hcs, _, hl, hmx, hm, _, hi⟩
  · simp [Value.cells] at hcs
    obtain ⟨rfl, rfl, rfl⟩ := hcs
    exact ⟨[], rfl, Lies.nil _ _, fun _ => rfl, Nat.le_refl _, by simp, by decide⟩
  · simp [Value.cells] at hcs
    obtain ⟨rfl, rfl, rfl⟩ := hcs
    have hlm : len ≤ m := by rw [hm]; split <;> omega
    have key : ∀ i, ∃ p : Int × List Int, p.2.length = 64 ∧ (i < len → ∀ k v, (hc p)[k]? = some v → W.cell? ((x.add (i * 65)).add k) = some v) := by
      intro i
      by_cases hil : i < len
      · obtain ⟨cs', hc', ht'⟩ := hi i (by omega)
        rw [hce] at hc'
        obtain ⟨_, hcl, hat⟩ := World.cells?_some hc'
        obtain ⟨p, hp, rfl⟩ := heard_of he hf0 hf1 h00 h01 h02 h10 h11 h12 h13 h14 hcl ht'
        refine ⟨p, hp, fun _ k v hk => ?_⟩
        have hk65 : k < 65 := by rw [← hcl]; exact (List.getElem?_eq_some_iff.1 hk).1
        rw [hat k hk65]
        exact hk
      · exact ⟨(0, List.replicate 64 0), by rw [List.length_replicate], fun h => absurd h hil⟩
    refine ⟨(List.range len).map fun i => Classical.choose (key i), by simp, ?_, by simp, hl, ?_, by simp only [maxLen] at hmx; omega⟩
    · refine lies_heard (fun h hh => ?_) (fun i hi2 k v hk => ?_)
      · obtain ⟨i, _, rfl⟩ := List.mem_map.1 hh
        exact (Classical.choose_spec (key i)).1
      · rw [List.length_map, List.length_range] at hi2
        rw [List.getElem_map, List.getElem_range] at hk
        exact (Classical.choose_spec (key i)).2 hi2 k v hk
    · intro h hh
      obtain ⟨i, _, rfl⟩ := List.mem_map.1 hh
      exact (Classical.choose_spec (key i)).1
end
end Go.Proofs.Ytokcohepkajloaa
