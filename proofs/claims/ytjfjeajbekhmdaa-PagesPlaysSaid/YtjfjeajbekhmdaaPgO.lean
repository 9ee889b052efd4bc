/- Deeds that came in: a slice of them, each with its bytes and its pages to keep. -/
import Derived.Test.YtjfjeajbekhmdaaPgY
import Derived.Test.YtjfjeajbekhmdaaRow
import Derived.Deep.Slices
import Derived.Deep.Fields
import Derived.ChangeSame
namespace Go.Proofs.Ytjfjeajbekhmdaa
open Go.ChangeShapes Go.WideShapes Go.ChangeAt Go.RowKit Go.Deep
set_option linter.unusedVariables false
set_option linter.unusedSimpArgs false
/-- A deed, and where its bytes and its numbers lie. -/
structure Laid where
  k : Deed
  A : Option Addr
  cc : Nat
  B : Option Addr
  kc : Nat
def dk (x : Laid) : List Value := [.int .i64 x.k.op, .int .i64 x.k.i, .int .i64 x.k.n, .slice x.A x.k.b.length x.cc, .slice x.B x.k.keep.length x.kc]
structure Laid.In (x : Laid) (w : World) : Prop where
  rb : RB w x.A x.k.b
  cc : x.k.b.length ≤ x.cc
  bl : x.k.b.length ≤ 9223372036854775807
  ks : Lies w x.B (x.k.keep.map (Value.int .i64))
  kl : x.k.keep.length ≤ 9223372036854775807
  n1 : x.k.n ≤ 9223372036854775807
  n0 : -9223372036854775808 ≤ x.k.n
theorem dkflat_at : ∀ (l : List Laid) (j k : Nat) (hj : j < l.length), k < 5 → (l.flatMap dk)[j * 5 + k]? = (dk l[j])[k]?
  | [], _, _, hj, _ => by cases hj
  | h :: l, 0, k, _, hk => by
    have : (dk h).length = 5 := rfl
    rw [List.flatMap_cons, Nat.zero_mul, Nat.zero_add, List.getElem?_append_left (by omega)]; rfl
  | h :: l, j + 1, k, hj, hk => by
    have : (dk h).length = 5 := rfl
    rw [List.flatMap_cons, List.getElem?_append_right (by omega), this, show (j + 1) * 5 + k - 5 = j * 5 + k by omega]
    exact dkflat_at l j k (by simpa using hj) hk
theorem dkflat_length : ∀ (l : List Laid), (l.flatMap dk).length = l.length * 5
  | [] => rfl
  | h :: l => by
    have h1 : (dk h).length = 5 := rfl
    rw [List.flatMap_cons, List.length_append, h1, dkflat_length l, List.length_cons]
    omega
theorem lies_laid {w : World} {a : Addr} {l : List Laid} (h : ∀ i (hi : i < l.length) k v, (dk l[i])[k]? = some v → w.cell? ((a.add (i * 5)).add k) = some v) : Lies w (some a) (l.flatMap dk) := by
  intro K v hK
  have hlt : K < l.length * 5 := by rw [← dkflat_length l]; exact (List.getElem?_eq_some_iff.1 hK).1
  have hi : K / 5 < l.length := by omega
  have hk : K % 5 < 5 := Nat.mod_lt _ (by decide)
  have e : K = K / 5 * 5 + K % 5 := by omega
  rw [e, dkflat_at l _ _ hi hk] at hK
  have := h _ hi _ _ hK
  rw [Addr.add_add, ← e] at this
  exact ⟨a, rfl, this⟩
section
variable {H : Type} {enc : TypeId × Value → H} {W : World} {base : Nat} {spare : Nat → Bool} {held : Bool}
theorem cells_act : Try.prog.cellsOf 35 = 5 := by kernel_rfl
theorem cells_ai : Try.prog.cellsOf 3 = 1 := by kernel_rfl
theorem cells_ab : Try.prog.cellsOf 22 = 1 := by kernel_rfl
theorem cells_an : Try.prog.cellsOf 33 = 1 := by kernel_rfl
theorem cells_au : Try.prog.cellsOf 5 = 1 := by kernel_rfl
/-- A slice of whole numbers within. -/
theorem nums_of {P : Program} {t e : TypeId} {k : IntKind} {fuel : Nat} {v : Value} {x : DataW H × List MemPlace} (hu : P.underlying t = some (.slice e)) (he : P.underlying e = some (.int k)) (hc : P.cellsOf e = 1)
    (h : DataW.trod enc P W base spare held fuel t [v] = some x) :
    ∃ (a : Option Addr) (cap : Nat) (zs : List Int), v = .slice a zs.length cap ∧ Lies W a (zs.map (Value.int k)) ∧ zs.length ≤ cap ∧ zs.length ≤ 9223372036854775807 ∧ ∀ z ∈ zs, (Lit.int k z).wf = true := by
  rcases open_ints hu he hc h with ⟨hcs, _⟩ | ⟨x, l, c, zs, hcs, _, hl, hm, hz, hx, hcell, hwz⟩
  · injection hcs with hcs _
    exact ⟨none, 0, [], hcs, Lies.nil _ _, Nat.le_refl _, by decide, by simp⟩
  · injection hcs with hcs _
    have hl2 : l ≤ zs.length := by
      rw [hz]
      split
      · exact hl
      · exact Nat.le_refl _
    have hML : maxLen = 9223372036854775807 := rfl
    have e0 : (zs.take l).length = l := by simp; omega
    refine ⟨some x, c, zs.take l, by rw [e0]; exact hcs, ?_, by omega, by omega, fun n hn => hwz n (List.mem_of_mem_take hn)⟩
    intro i v hv
    rw [List.getElem?_map] at hv
    obtain ⟨n, hn, rfl⟩ := Option.map_eq_some_iff.1 hv
    rw [List.getElem?_take] at hn
    split at hn
    · refine ⟨_, rfl, ?_⟩
      rw [hcell i (by omega), List.getD, hn]
      rfl
    · cases hn
theorem bytes_of {P : Program} {t e : TypeId} {fuel : Nat} {v : Value} {x : DataW H × List MemPlace} (hu : P.underlying t = some (.slice e)) (he : P.underlying e = some (.int .u8)) (hc : P.cellsOf e = 1)
    (h : DataW.trod enc P W base spare held fuel t [v] = some x) :
    ∃ (a : Option Addr) (cap : Nat) (bs : List UInt8), v = .slice a bs.length cap ∧ RB W a bs ∧ bs.length ≤ cap ∧ bs.length ≤ 9223372036854775807 := by
  obtain ⟨a, cap, zs, h1, h2, h3, h4, h6⟩ := nums_of hu he hc h
  refine ⟨a, cap, zs.map fun z => UInt8.ofNat z.toNat, by rw [List.length_map]; exact h1, ?_, by rw [List.length_map]; exact h3, by rw [List.length_map]; exact h4⟩
  have e : (zs.map fun z => UInt8.ofNat z.toNat).map vb = zs.map (Value.int .u8) := by
    rw [List.map_map]
    apply List.map_congr_left
    intro z hz
    have := wf_u8 (h6 z hz)
    simp only [Function.comp, vb, UInt8.toNat_ofNat', Value.int.injEq, true_and]
    omega
  unfold RB
  rw [e]
  exact h2
theorem fld {fs : Array Field} {cs : List Value} {n' : Nat} {ys : List (DataW H × List MemPlace)} (hf : ∀ (i : Nat) (f : Field), fs[i]? = some f → DataW.trod enc Try.prog W base spare held n' f.type ((cs.drop f.offset).take (Try.prog.cellsOf f.type)) = ys[i]?)
    (i : Nat) (f : Field) (h : fs[i]? = some f) (hi : i < ys.length) {t o n : Nat} (ht : f.type = t) (ho : f.offset = o) (hc : Try.prog.cellsOf t = n) : DataW.trod enc Try.prog W base spare held n' t ((cs.drop o).take n) = some ys[i] := by
  rw [← List.getElem?_eq_getElem hi, ← hf i f h, ht, ho, hc]
theorem laid_of {fuel : Nat} {cs : List Value} {x : DataW H × List MemPlace} (hl : cs.length = 5) (h : DataW.trod enc Try.prog W base spare held fuel 35 cs = some x) : ∃ p : Laid, cs = dk p ∧ p.In W := by
  match cs, hl with
  | [c0, c1, c2, c3, c4], _ =>
    obtain ⟨ys, n', hn', hy, hlen, hyl, hf⟩ := DataW.trod_struct Try.underlying35 h
    have hs : ys.length = 5 := hyl
    have k0 := fld hf 0 _ rfl (by omega) (t := 3) (o := 0) rfl rfl cells_ai
    have k1 := fld hf 1 _ rfl (by omega) (t := 3) (o := 1) rfl rfl cells_ai
    have k2 := fld hf 2 _ rfl (by omega) (t := 3) (o := 2) rfl rfl cells_ai
    have k3 := fld hf 3 _ rfl (by omega) (t := 22) (o := 3) rfl rfl cells_ab
    have k4 := fld hf 4 _ rfl (by omega) (t := 33) (o := 4) rfl rfl cells_an
    obtain ⟨a, e0, _, _⟩ := DataW.trod_int Try.underlying3 k0
    obtain ⟨b, e1, _, _⟩ := DataW.trod_int Try.underlying3 k1
    obtain ⟨c, e2, _, hw⟩ := DataW.trod_int Try.underlying3 k2
    obtain ⟨A, cc, bs, rfl, hb1, hb2, hb3⟩ := bytes_of Try.underlying22 Try.underlying5 cells_au k3
    obtain ⟨B, kc, zs, rfl, hz1, hz2, hz3, hz4⟩ := nums_of Try.underlying33 Try.underlying3 cells_ai k4
    obtain rfl := List.head_eq_of_cons_eq e0
    obtain rfl := List.head_eq_of_cons_eq e1
    obtain rfl := List.head_eq_of_cons_eq e2
    have hw2 := wf_i64 hw
    exact ⟨⟨⟨a, b, c, bs, zs⟩, A, cc, B, kc⟩, rfl, hb1, hb2, hb3, hz1, hz3, hw2.2, hw2.1⟩
theorem open_acts {t : TypeId} {a : Option Addr} {len cap : Nat} {d : DataW H} {ps : List MemPlace} (hu : Try.prog.underlying t = some (.slice 35))
    (h : DataW.Trod enc Try.prog W base spare held t (.slice a len cap) d ps) :
    ∃ l : List Laid, l.length = len ∧ Lies W a (l.flatMap dk) ∧ (∀ x ∈ l, x.In W) ∧ len ≤ 9223372036854775807 := by
  obtain ⟨fuel, hf⟩ := h
  rcases open_slice hu hf with ⟨hcs, _⟩ | ⟨x, l, c, m, n, D, Pl, hcs, _, hl, hmx, hm, _, hi⟩
  · simp [Value.cells] at hcs
    obtain ⟨rfl, rfl, rfl⟩ := hcs
    exact ⟨[], rfl, Lies.nil _ _, by simp, by decide⟩
  · simp [Value.cells] at hcs
    obtain ⟨rfl, rfl, rfl⟩ := hcs
    have hlm : len ≤ m := by rw [hm]; split <;> omega
    have key : ∀ i, ∃ p : Laid, i < len → (∀ k v, (dk p)[k]? = some v → W.cell? ((x.add (i * 5)).add k) = some v) ∧ p.In W := by
      intro i
      by_cases hil : i < len
      · obtain ⟨cs', hc', ht'⟩ := hi i (by omega)
        rw [cells_act] at hc'
        obtain ⟨_, hcl, hat⟩ := World.cells?_some hc'
        obtain ⟨p, rfl, hp⟩ := laid_of hcl ht'
        refine ⟨p, fun _ => ⟨fun k v hk => ?_, hp⟩⟩
        have hk2 : k < 5 := by rw [← hcl]; exact (List.getElem?_eq_some_iff.1 hk).1
        rw [hat k hk2]
        exact hk
      · exact ⟨⟨⟨0, 0, 0, [], []⟩, none, 0, none, 0⟩, fun h => absurd h hil⟩
    refine ⟨(List.range len).map fun i => Classical.choose (key i), by simp, ?_, ?_, by simp only [maxLen] at hmx; omega⟩
    · refine lies_laid (fun i hi2 k v hk => ?_)
      rw [List.length_map, List.length_range] at hi2
      rw [List.getElem_map, List.getElem_range] at hk
      exact (Classical.choose_spec (key i) hi2).1 k v hk
    · intro y hy
      obtain ⟨i, hi2, rfl⟩ := List.mem_map.1 hy
      exact (Classical.choose_spec (key i) (List.mem_range.1 hi2)).2
end
end Go.Proofs.Ytjfjeajbekhmdaa
