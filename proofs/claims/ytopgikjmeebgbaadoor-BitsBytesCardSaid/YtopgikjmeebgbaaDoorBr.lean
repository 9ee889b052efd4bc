/- Deeds that came in: a slice of them. -/
import Derived.Test.YtopgikjmeebgbaaDoorBm
import Derived.Test.YtopgikjmeebgbaaDoorRow
import Derived.Deep.Slices
import Derived.Deep.Fields
import Derived.ChangeSame
namespace Go.Proofs.YtopgikjmeebgbaaDoor
open Go.ChangeShapes Go.WideShapes Go.ChangeAt Go.RowKit Go.Deep
set_option linter.unusedVariables false
set_option linter.unusedSimpArgs false
section
variable {H : Type} {enc : TypeId × Value → H} {W : World} {base : Nat} {spare : Nat → Bool} {held : Bool}
theorem cells_do : Tryd.prog.cellsOf 64 = 2 := by kernel_rfl
theorem cells_int : Tryd.prog.cellsOf 3 = 1 := by kernel_rfl
theorem fld {fs : Array Field} {cs : List Value} {n' : Nat} {ys : List (DataW H × List MemPlace)} (hf : ∀ (i : Nat) (f : Field), fs[i]? = some f → DataW.trod enc Tryd.prog W base spare held n' f.type ((cs.drop f.offset).take (Tryd.prog.cellsOf f.type)) = ys[i]?)
    (i : Nat) (f : Field) (h : fs[i]? = some f) (hi : i < ys.length) {t o n : Nat} (ht : f.type = t) (ho : f.offset = o) (hc : Tryd.prog.cellsOf t = n) : DataW.trod enc Tryd.prog W base spare held n' t ((cs.drop o).take n) = some ys[i] := by
  rw [← List.getElem?_eq_getElem hi, ← hf i f h, ht, ho, hc]
theorem deed_of {fuel : Nat} {cs : List Value} {x : DataW H × List MemPlace} (hl : cs.length = 2) (h : DataW.trod enc Tryd.prog W base spare held fuel 64 cs = some x) : ∃ p : Int × Int, cs = dc p := by
  match cs, hl with
  | [c0, c1], _ =>
    obtain ⟨ys, n', hn', hy, hlen, hyl, hf⟩ := DataW.trod_struct Tryd.underlying64 h
    have hs : ys.length = 2 := hyl
    have k0 := fld hf 0 _ rfl (by omega) (t := 3) (o := 0) rfl rfl cells_int
    have k1 := fld hf 1 _ rfl (by omega) (t := 3) (o := 1) rfl rfl cells_int
    obtain ⟨a, e0, _, _⟩ := DataW.trod_int Tryd.underlying3 k0
    obtain ⟨b, e1, _, _⟩ := DataW.trod_int Tryd.underlying3 k1
    obtain rfl := List.head_eq_of_cons_eq e0
    obtain rfl := List.head_eq_of_cons_eq e1
    exact ⟨(a, b), rfl⟩
theorem dflat_length : ∀ (l : List (Int × Int)), (l.flatMap dc).length = l.length * 2
  | [] => rfl
  | h :: l => by
    have h1 : (dc h).length = 2 := rfl
    rw [List.flatMap_cons, List.length_append, h1, dflat_length l, List.length_cons]
    omega
theorem lies_deeds {w : World} {a : Addr} {l : List (Int × Int)} (h : ∀ i (hi : i < l.length) k v, (dc l[i])[k]? = some v → w.cell? ((a.add (i * 2)).add k) = some v) : Lies w (some a) (l.flatMap dc) := by
  intro K v hK
  have hlt : K < l.length * 2 := by rw [← dflat_length l]; exact (List.getElem?_eq_some_iff.1 hK).1
  have hi : K / 2 < l.length := by omega
  have hk : K % 2 < 2 := Nat.mod_lt _ (by decide)
  have e : K = K / 2 * 2 + K % 2 := by omega
  rw [e, dflat_at l _ _ hi hk] at hK
  have := h _ hi _ _ hK
  rw [Addr.add_add, ← e] at this
  exact ⟨a, rfl, this⟩
theorem open_deeds {t : TypeId} {a : Option Addr} {len cap : Nat} {d : DataW H} {ps : List MemPlace} (hu : Tryd.prog.underlying t = some (.slice 64))
    (h : DataW.Trod enc Tryd.prog W base spare held t (.slice a len cap) d ps) :
    ∃ l : List (Int × Int), l.length = len ∧ Lies W a (l.flatMap dc) ∧ (a = none → cap = 0) ∧ len ≤ cap ∧ len ≤ 9223372036854775807 := by
  obtain ⟨fuel, hf⟩ := h
  rcases open_slice hu hf with ⟨hcs, _⟩ | ⟨x, l, c, m, n, D, Pl, hcs, _, hl, hmx, hm, _, hi⟩
  · simp [Value.cells] at hcs
    obtain ⟨rfl, rfl, rfl⟩ := hcs
    exact ⟨[], rfl, Lies.nil _ _, fun _ => rfl, Nat.le_refl _, by decide⟩
  · simp [Value.cells] at hcs
    obtain ⟨rfl, rfl, rfl⟩ := hcs
    have hlm : len ≤ m := by rw [hm]; split <;> omega
    have key : ∀ i, ∃ p : Int × Int, i < len → ∀ k v, (dc p)[k]? = some v → W.cell? ((x.add (i * 2)).add k) = some v := by
      intro i
      by_cases hil : i < len
      · obtain ⟨cs', hc', ht'⟩ := hi i (by omega)
        rw [cells_do] at hc'
        obtain ⟨_, hcl, hat⟩ := World.cells?_some hc'
        obtain ⟨p, rfl⟩ := deed_of hcl ht'
        refine ⟨p, fun _ k v hk => ?_⟩
        have hk2 : k < 2 := by rw [← hcl]; exact (List.getElem?_eq_some_iff.1 hk).1
        rw [hat k hk2]
        exact hk
      · exact ⟨(0, 0), fun h => absurd h hil⟩
    refine ⟨(List.range len).map fun i => Classical.choose (key i), by simp, ?_, by simp, hl, by simp only [maxLen] at hmx; omega⟩
    refine lies_deeds (fun i hi2 k v hk => ?_)
    rw [List.length_map, List.length_range] at hi2
    rw [List.getElem_map, List.getElem_range] at hk
    exact Classical.choose_spec (key i) hi2 k v hk
end
end Go.Proofs.YtopgikjmeebgbaaDoor
