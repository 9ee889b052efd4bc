/- Postings that came in: a slice of them, each with its spots, each with its places. -/
import Derived.Test.YtbeejmedekgjjaaPoA
import Derived.Test.YtbeejmedekgjjaaRow
import Derived.Deep.Slices
import Derived.Deep.Fields
import Derived.ChangeSame
namespace Go.Proofs.Ytbeejmedekgjjaa
open Go.ChangeShapes Go.WideShapes Go.ChangeAt Go.RowKit Go.Deep
set_option linter.unusedVariables false
set_option linter.unusedSimpArgs false
section
variable {H : Type} {enc : TypeId × Value → H} {W : World} {base : Nat} {spare : Nat → Bool} {held : Bool}
theorem cells_post : Try.prog.cellsOf 40 = 2 := by kernel_rfl
theorem cells_spot : Try.prog.cellsOf 46 = 2 := by kernel_rfl
theorem cells_pi : Try.prog.cellsOf 3 = 1 := by kernel_rfl
theorem cells_ps : Try.prog.cellsOf 38 = 1 := by kernel_rfl
theorem cells_pn : Try.prog.cellsOf 35 = 1 := by kernel_rfl
theorem bytes_spot : Try.prog.bytesOf 46 = 32 := by kernel_rfl
/-- No part of it takes more room than there is. -/
def SmallD (P : Program) (t : TypeId) (d : DataW H) : Prop := ∀ n ∈ d.weights P t, n ≤ reachBytes
theorem SmallD.all {P : Program} {e : TypeId} : ∀ {l : List (DataW H)}, (∀ n ∈ DataW.weightsAll P e l, n ≤ reachBytes) → ∀ d ∈ l, SmallD P e d
  | [], _, d, hd => by cases hd
  | x :: l, h, d, hd => by
    simp only [DataW.weightsAll, List.mem_append] at h
    rcases List.mem_cons.1 hd with rfl | hd
    · exact fun n hn => h n (.inl hn)
    · exact SmallD.all (fun n hn => h n (.inr hn)) d hd
theorem SmallD.slice {P : Program} {t e : TypeId} {elems sp : List (DataW H)} (h : SmallD P t (.slice elems sp)) (hu : P.underlying t = some (.slice e)) : (elems.length + sp.length) * P.bytesOf e ≤ reachBytes ∧ ∀ d ∈ elems, SmallD P e d := by
  unfold SmallD at h
  simp only [DataW.weights, hu, List.mem_cons, List.mem_append] at h
  exact ⟨h _ (.inl rfl), SmallD.all fun n hn => h n (.inr (.inl hn))⟩
theorem nums_of {P : Program} {t e : TypeId} {k : IntKind} {fuel : Nat} {v : Value} {x : DataW H × List MemPlace} (hu : P.underlying t = some (.slice e)) (he : P.underlying e = some (.int k)) (hc : P.cellsOf e = 1)
    (h : DataW.trod enc P W base spare held fuel t [v] = some x) :
    ∃ (a : Option Addr) (cap : Nat) (zs : List Int), v = .slice a zs.length cap ∧ Lies W a (zs.map (Value.int k)) ∧ zs.length ≤ cap ∧ zs.length ≤ 9223372036854775807 ∧ ∀ z ∈ zs, (Lit.int k z).wf = true := by
  rcases open_ints hu he hc h with ⟨hcs, _⟩ | ⟨x, l, c, zs, hcs, _, hl, hm, hz, hx, hcell, hwz⟩
  · injection hcs with hcs _
    exact ⟨none, 0, [], hcs, Lies.nil _ _, Nat.le_refl _, by decide, by simp⟩
  · injection hcs with hcs _
    have hl2 : l ≤ zs.length := by
      rw [hz]
      split
      · exact hl
      · exact Nat.le_refl _
    have hML : maxLen = 9223372036854775807 := rfl
    have e0 : (zs.take l).length = l := by simp; omega
    refine ⟨some x, c, zs.take l, by rw [e0]; exact hcs, ?_, by omega, by omega, fun n hn => hwz n (List.mem_of_mem_take hn)⟩
    intro i v hv
    rw [List.getElem?_map] at hv
    obtain ⟨n, hn, rfl⟩ := Option.map_eq_some_iff.1 hv
    rw [List.getElem?_take] at hn
    split at hn
    · refine ⟨_, rfl, ?_⟩
      rw [hcell i (by omega), List.getD, hn]
      rfl
    · cases hn
theorem fldP {fs : Array Field} {cs : List Value} {n' : Nat} {ys : List (DataW H × List MemPlace)} (hf : ∀ (i : Nat) (f : Field), fs[i]? = some f → DataW.trod enc Try.prog W base spare held n' f.type ((cs.drop f.offset).take (Try.prog.cellsOf f.type)) = ys[i]?)
    (i : Nat) (f : Field) (h : fs[i]? = some f) (hi : i < ys.length) {t o n : Nat} (ht : f.type = t) (ho : f.offset = o) (hc : Try.prog.cellsOf t = n) : DataW.trod enc Try.prog W base spare held n' t ((cs.drop o).take n) = some ys[i] := by
  rw [← List.getElem?_eq_getElem hi, ← hf i f h, ht, ho, hc]
theorem spot_of {fuel : Nat} {cs : List Value} {x : DataW H × List MemPlace} (hl : cs.length = 2) (h : DataW.trod enc Try.prog W base spare held fuel 46 cs = some x) : ∃ s : LSpot, cs = sk s ∧ s.In W := by
  match cs, hl with
  | [c0, c1], _ =>
    obtain ⟨ys, n', hn', hy, hlen, hyl, hf⟩ := DataW.trod_struct Try.underlying46 h
    have hs : ys.length = 2 := hyl
    have k0 := fldP hf 0 _ rfl (by omega) (t := 3) (o := 0) rfl rfl cells_pi
    have k1 := fldP hf 1 _ rfl (by omega) (t := 35) (o := 1) rfl rfl cells_pn
    obtain ⟨a, e0, _, hw⟩ := DataW.trod_int Try.underlying3 k0
    obtain ⟨B, kc, zs, rfl, hz1, hz2, hz3, hz4⟩ := nums_of Try.underlying35 Try.underlying3 cells_pi k1
    obtain rfl := List.head_eq_of_cons_eq e0
    exact ⟨⟨a, B, kc, zs⟩, rfl, hz1, hz2, hz3, fun z hz => wf_i64 (hz4 z hz), wf_i64 hw⟩
/-- A slice of two-celled things within. -/
theorem two_of {P : Program} {t e : TypeId} {fuel : Nat} {v : Value} {x : DataW H × List MemPlace} {α : Type} (f : α → List Value) (hlf : ∀ a, (f a).length = 2) (Q : α → Prop) (d0 : α) (hu : P.underlying t = some (.slice e)) (hc : P.cellsOf e = 2) (hs : SmallD P t x.1)
    (he : ∀ (fuel : Nat) (cs : List Value) (y : DataW H × List MemPlace), cs.length = 2 → SmallD P e y.1 → DataW.trod enc P W base spare held fuel e cs = some y → ∃ a, cs = f a ∧ Q a)
    (h : DataW.trod enc P W base spare held fuel t [v] = some x) :
    ∃ (a : Option Addr) (cap : Nat) (l : List α), v = .slice a l.length cap ∧ Lies W a (l.flatMap f) ∧ (∀ x ∈ l, Q x) ∧ l.length ≤ cap ∧ l.length ≤ 9223372036854775807 ∧ l.length * P.bytesOf e ≤ reachBytes := by
  rcases open_slice hu h with ⟨hcs, _⟩ | ⟨x0, l, c, m, n, D, Pl, hcs, _, hl, hmx, hm, hx, hi⟩
  · injection hcs with hcs _
    exact ⟨none, 0, [], hcs, Lies.nil _ _, by simp, Nat.le_refl _, Nat.zero_le _, by simp⟩
  · injection hcs with hcs _
    subst hcs
    subst hx
    have hlm : l ≤ m := by rw [hm]; split <;> omega
    obtain ⟨s1, s2⟩ := SmallD.slice hs hu
    have key : ∀ i, ∃ p : α, i < l → (∀ k v, (f p)[k]? = some v → W.cell? ((x0.add (i * 2)).add k) = some v) ∧ Q p := by
      intro i
      by_cases hil : i < l
      · obtain ⟨cs', hc', ht'⟩ := hi i (by omega)
        rw [hc] at hc'
        obtain ⟨_, hcl, hat⟩ := World.cells?_some hc'
        obtain ⟨p, rfl, hp⟩ := he _ cs' (D i, Pl i) hcl (s2 _ (List.mem_map.2 ⟨i, List.mem_range.2 hil, rfl⟩)) ht'
        refine ⟨p, fun _ => ⟨fun k v hk => ?_, hp⟩⟩
        have hk2 : k < 2 := by rw [← hcl]; exact (List.getElem?_eq_some_iff.1 hk).1
        rw [hat k hk2]
        exact hk
      · exact ⟨d0, fun h => absurd h hil⟩
    have hML : maxLen = 9223372036854775807 := rfl
    refine ⟨some x0, c, (List.range l).map fun i => Classical.choose (key i), by simp, ?_, ?_, by simpa using hl, by simp; omega, ?_⟩
    · refine flat_lies hlf (by decide) (fun i hi2 k v hk => ?_)
      rw [List.length_map, List.length_range] at hi2
      rw [List.getElem_map, List.getElem_range] at hk
      exact (Classical.choose_spec (key i) hi2).1 k v hk
    · intro y hy
      obtain ⟨i, hi2, rfl⟩ := List.mem_map.1 hy
      exact (Classical.choose_spec (key i) (List.mem_range.1 hi2)).2
    · refine Nat.le_trans (Nat.mul_le_mul_right _ ?_) s1
      simp
theorem post_of {fuel : Nat} {cs : List Value} {x : DataW H × List MemPlace} (hl : cs.length = 2) (hs : SmallD Try.prog 40 x.1) (h : DataW.trod enc Try.prog W base spare held fuel 40 cs = some x) : ∃ p : LPost, cs = pk p ∧ p.In W ∧ p.spots.length ≤ 4398046511103 := by
  match cs, hl with
  | [c0, c1], _ =>
    obtain ⟨ys, n', hn', hy, hlen, hyl, hf⟩ := DataW.trod_struct Try.underlying40 h
    have hs2 : ys.length = 2 := hyl
    have k0 := fldP hf 0 _ rfl (by omega) (t := 3) (o := 0) rfl rfl cells_pi
    have k1 := fldP hf 1 _ rfl (by omega) (t := 38) (o := 1) rfl rfl cells_ps
    obtain ⟨a, e0, _, hw⟩ := DataW.trod_int Try.underlying3 k0
    have hsm : SmallD Try.prog 38 (ys[1]'(by omega)).1 := by
      intro n hn
      refine hs n ?_
      rw [hy]
      simp only [DataW.weights, Try.underlying40]
      exact DataW.weights_mem_each (j := 1) rfl (by rw [List.getElem?_map, List.getElem?_eq_getElem (by omega)]; rfl) n hn
    obtain ⟨B, kc, zs, rfl, hz1, hz2, hz3, hz4, hz5⟩ := two_of sk (fun _ => rfl) (fun s => s.In W) ⟨0, none, 0, []⟩ Try.underlying38 cells_spot hsm (fun _ cs y hl _ h => spot_of hl h) k1
    obtain rfl := List.head_eq_of_cons_eq e0
    rw [bytes_spot] at hz5
    refine ⟨⟨a, B, kc, zs⟩, rfl, ⟨hz1, hz3, hz4, hz2, wf_i64 hw⟩, ?_⟩
    have : reachBytes = 140737488351232 := rfl
    show zs.length ≤ _
    omega
theorem open_posts {ts : List TypeId} {ds : List (DataW H)} {j : Nat} {t : TypeId} {a : Option Addr} {len cap : Nat} {d : DataW H} {ps : List MemPlace} (hsz : (DataW.weightsEach Try.prog ts ds).all (· ≤ reachBytes) = true) (ht : ts[j]? = some t) (hd : ds[j]? = some d) (hu : Try.prog.underlying t = some (.slice 40))
    (h : DataW.Trod enc Try.prog W base spare held t (.slice a len cap) d ps) :
    ∃ l : List LPost, l.length = len ∧ Posts W a cap l ∧ (∀ p ∈ l, p.spots.length ≤ 4398046511103) := by
  obtain ⟨fuel, hf⟩ := h
  have hs : SmallD Try.prog t d := fun n hn => by simpa using List.all_eq_true.1 hsz _ (DataW.weights_mem_each ht hd n hn)
  obtain ⟨a', c', l, e, h1, h2, h3, h4, h5⟩ := two_of pk (fun _ => rfl) (fun p => p.In W ∧ p.spots.length ≤ 4398046511103) ⟨0, none, 0, []⟩ hu cells_post (x := (d, ps)) hs (fun _ cs y hl hs h => post_of hl hs h) hf
  injection e with e1 e2 e3
  subst e1; subst e3
  exact ⟨l, e2.symm, ⟨h1, fun p hp => (h2 p hp).1, h3, h4⟩, fun p hp => (h2 p hp).2⟩
end
end Go.Proofs.Ytbeejmedekgjjaa
