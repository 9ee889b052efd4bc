/- Writes that came in: one by value, and a slice of them. -/
import Derived.Test.YtokcohepkajloaaTg
import Derived.Test.YtokcohepkajloaaMr
namespace Go.Proofs.Ytokcohepkajloaa
open Go.ChangeShapes Go.WideShapes Go.ChangeAt Go.RowKit Go.Deep
set_option linter.unusedVariables false
set_option linter.unusedSimpArgs false
section
variable {H : Type} {enc : TypeId × Value → H} {W : World} {base : Nat} {spare : Nat → Bool} {held : Bool}
theorem cells_dot : Try.prog.cellsOf 48 = 2 := by kernel_rfl
theorem cells_write : Try.prog.cellsOf 50 = 6 := by kernel_rfl
theorem cells_int : Try.prog.cellsOf 3 = 1 := by kernel_rfl
theorem cells_str : Try.prog.cellsOf 9 = 1 := by kernel_rfl
theorem fld {fs : Array Field} {cs : List Value} {n' : Nat} {ys : List (DataW H × List MemPlace)} (hf : ∀ (i : Nat) (f : Field), fs[i]? = some f → DataW.trod enc Try.prog W base spare held n' f.type ((cs.drop f.offset).take (Try.prog.cellsOf f.type)) = ys[i]?)
    (i : Nat) (f : Field) (h : fs[i]? = some f) (hi : i < ys.length) {t o n : Nat} (ht : f.type = t) (ho : f.offset = o) (hc : Try.prog.cellsOf t = n) : DataW.trod enc Try.prog W base spare held n' t ((cs.drop o).take n) = some ys[i] := by
  rw [← List.getElem?_eq_getElem hi, ← hf i f h, ht, ho, hc]
theorem dot_of {fuel : Nat} {c0 c1 : Value} {x : DataW H × List MemPlace} (h : DataW.trod enc Try.prog W base spare held fuel 48 [c0, c1] = some x) : ∃ a b : Int, c0 = .int .i64 a ∧ c1 = .int .i64 b := by
  obtain ⟨ys, n', hn', hy, hlen, hyl, hf⟩ := DataW.trod_struct Try.underlying48 h
  have hs : ys.length = 2 := hyl
  have k0 := fld hf 0 _ rfl (by omega) (t := 3) (o := 0) rfl rfl cells_int
  have k1 := fld hf 1 _ rfl (by omega) (t := 3) (o := 1) rfl rfl cells_int
  obtain ⟨a, e0, _, _⟩ := DataW.trod_int Try.underlying3 k0
  obtain ⟨b, e1, _, _⟩ := DataW.trod_int Try.underlying3 k1
  exact ⟨a, b, List.head_eq_of_cons_eq e0, List.head_eq_of_cons_eq e1⟩
theorem write_of {fuel : Nat} {cs : List Value} {x : DataW H × List MemPlace} (hl : cs.length = 6) (h : DataW.trod enc Try.prog W base spare held fuel 50 cs = some x) : ∃ p : Wr, cs = wcs p := by
  match cs, hl with
  | [c0, c1, c2, c3, c4, c5], _ =>
    obtain ⟨ys, n', hn', hy, hlen, hyl, hf⟩ := DataW.trod_struct Try.underlying50 h
    have hs : ys.length = 5 := hyl
    have k0 := fld hf 0 _ rfl (by omega) (t := 48) (o := 0) rfl rfl cells_dot
    have k1 := fld hf 1 _ rfl (by omega) (t := 3) (o := 2) rfl rfl cells_int
    have k2 := fld hf 2 _ rfl (by omega) (t := 9) (o := 3) rfl rfl cells_str
    have k3 := fld hf 3 _ rfl (by omega) (t := 3) (o := 4) rfl rfl cells_int
    have k4 := fld hf 4 _ rfl (by omega) (t := 9) (o := 5) rfl rfl cells_str
    obtain ⟨a, b, rfl, rfl⟩ := dot_of k0
    obtain ⟨t, e1, _, _⟩ := DataW.trod_int Try.underlying3 k1
    obtain ⟨d, e2, _, _⟩ := DataW.trod_string Try.underlying9 k2
    obtain ⟨f, e3, _, _⟩ := DataW.trod_int Try.underlying3 k3
    obtain ⟨y, e4, _, _⟩ := DataW.trod_string Try.underlying9 k4
    obtain rfl := List.head_eq_of_cons_eq e1
    obtain rfl := List.head_eq_of_cons_eq e2
    obtain rfl := List.head_eq_of_cons_eq e3
    obtain rfl := List.head_eq_of_cons_eq e4
    exact ⟨⟨(a, b), t, d, f, y⟩, rfl⟩
theorem open_write {r : Reach} {b0 : Nat} {v : Value} {d : DataW H} {ps : List MemPlace} (hval : Value.okWide Try.prog W r b0 50 v) (h : DataW.Trod enc Try.prog W base spare held 50 v d ps) : ∃ p : Wr, v = wv p := by
  obtain ⟨cs, rfl, hs⟩ := okWide_struct Try.underlying50 hval
  rw [cells_write] at hs
  obtain ⟨fuel, hf⟩ := h
  obtain ⟨p, hp⟩ := write_of (by simpa [Value.cells] using hs) hf
  refine ⟨p, ?_⟩
  unfold wv
  rw [← hp]
  simp [Value.cells]
theorem wflat_length : ∀ (l : List Wr), (l.flatMap wcs).length = l.length * 6
  | [] => rfl
  | h :: l => by
    have h1 : (wcs h).length = 6 := rfl
    rw [List.flatMap_cons, List.length_append, h1, wflat_length l, List.length_cons]
    omega
theorem lies_writes {w : World} {a : Addr} {l : List Wr} (h : ∀ i (hi : i < l.length) k v, (wcs l[i])[k]? = some v → w.cell? ((a.add (i * 6)).add k) = some v) : Lies w (some a) (l.flatMap wcs) := by
  intro K v hK
  have hlt : K < l.length * 6 := by rw [← wflat_length l]; exact (List.getElem?_eq_some_iff.1 hK).1
  have hi : K / 6 < l.length := by omega
  have hk : K % 6 < 6 := Nat.mod_lt _ (by decide)
  have e : K = K / 6 * 6 + K % 6 := by omega
  rw [e, wflat_at l _ _ hi hk] at hK
  have := h _ hi _ _ hK
  rw [Addr.add_add, ← e] at this
  exact ⟨a, rfl, this⟩
theorem open_writes {t : TypeId} {a : Option Addr} {len cap : Nat} {d : DataW H} {ps : List MemPlace} (hu : Try.prog.underlying t = some (.slice 50))
    (h : DataW.Trod enc Try.prog W base spare held t (.slice a len cap) d ps) :
    ∃ l : List Wr, l.length = len ∧ Lies W a (l.flatMap wcs) ∧ (a = none → cap = 0) ∧ len ≤ cap ∧ len ≤ 9223372036854775807 := by
  obtain ⟨fuel, hf⟩ := h
  rcases open_slice hu hf with ⟨hcs, _⟩ | ⟨x, l, c, m, n, D, Pl, hcs, _, hl, hmx, hm, _, hi⟩
  · simp [Value.cells] at hcs
    obtain ⟨rfl, rfl, rfl⟩ := hcs
    exact ⟨[], rfl, Lies.nil _ _, fun _ => rfl, Nat.le_refl _, by decide⟩
  · simp [Value.cells] at hcs
    obtain ⟨rfl, rfl, rfl⟩ := hcs
    have hlm : len ≤ m := by rw [hm]; split <;> omega
    have key : ∀ i, ∃ p : Wr, i < len → ∀ k v, (wcs p)[k]? = some v → W.cell? ((x.add (i * 6)).add k) = some v := by
      intro i
      by_cases hil : i < len
      · obtain ⟨cs', hc', ht'⟩ := hi i (by omega)
        rw [cells_write] at hc'
        obtain ⟨_, hcl, hat⟩ := World.cells?_some hc'
        obtain ⟨p, rfl⟩ := write_of hcl ht'
        refine ⟨p, fun _ k v hk => ?_⟩
        have hk6 : k < 6 := by rw [← hcl]; exact (List.getElem?_eq_some_iff.1 hk).1
        rw [hat k hk6]
        exact hk
      · exact ⟨⟨(0, 0), 0, ByteArray.empty, 0, ByteArray.empty⟩, fun h => absurd h hil⟩
    refine ⟨(List.range len).map fun i => Classical.choose (key i), by simp, ?_, by simp, hl, by simp only [maxLen] at hmx; omega⟩
    refine lies_writes (fun i hi2 k v hk => ?_)
    rw [List.length_map, List.length_range] at hi2
    rw [List.getElem_map, List.getElem_range] at hk
    exact Classical.choose_spec (key i) hi2 k v hk
end
end Go.Proofs.Ytokcohepkajloaa
