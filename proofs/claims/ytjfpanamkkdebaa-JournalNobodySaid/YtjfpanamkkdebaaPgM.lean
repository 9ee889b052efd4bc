/- A map of numbers to texts in memory. -/
import Derived.Test.YtjfpanamkkdebaaOne
import Derived.Test.YtjfpanamkkdebaaChecked
import Derived.Maps.StringElems
import Derived.Maps.OwnOps
import Derived.Maps.Ext
namespace Go.Proofs.Ytjfpanamkkdebaa
open Go.RowKit Go.Maps Go.ChangeMaps
set_option linter.unusedVariables false
set_option maxRecDepth 100000
set_option linter.unusedSimpArgs false
theorem nodup_below : ∀ (N : Nat) (l : List Nat), l.Pairwise (fun a b => a ≠ b) → (∀ x ∈ l, x < N) → l.length ≤ N
  | 0, l, _, h => by
    cases l with
    | nil => simp
    | cons x l => exact absurd (h x List.mem_cons_self) (Nat.not_lt_zero _)
  | N + 1, l, hp, h => by
    have hn : l.Nodup := hp
    have h1 : (l.erase N).length ≤ N := by
      refine nodup_below N _ (hn.erase N) fun x hx => ?_
      have h2 := (hn.mem_erase_iff).1 hx
      have h3 := h x h2.2
      have : x ≠ N := h2.1
      omega
    have h2 : l.length ≤ (l.erase N).length + 1 := by
      rw [List.length_erase]
      split <;> omega
    omega
theorem law : Keyed Try.prog 3 := int_keyed Try.underlying3
theorem zeroS (w : World) : (zeroValue 9).run Try.prog w = .ok (.string ByteArray.empty) w := by kernel_rfl
theorem key_of (i : Nat) (h : i < 9223372036854775808) : keyOf Try.prog 3 (.int .i64 i) = some (.int .i64 i) := by
  refine keyOf_int_mk Try.underlying3 ?_
  simp [Lit.wf, IntKind.min, IntKind.max, IntKind.bits, IntKind.signed]
  omega
theorem isKey_of (i : Nat) (h : i < 9223372036854775808) : WideAt.IsKeyLit (.int .i64 i) := law.key (key_of i h)
/-- What is read of a map: numbers below N, each with a text or with none. -/
structure Reads (D : DataW Unit) (N : Nat) (L : Nat → Option (List UInt8)) : Prop where
  keys : ∀ es, D = .map es → ∀ p ∈ es, ∃ i : Nat, i < N ∧ p.1 = .int .i64 i
  has : ∀ i : Nat, i < N → Maps.has D (.int .i64 i) = (L i).isSome
  val : ∀ (i : Nat) (s : List UInt8), i < N → L i = some s → ∀ z, D.atKey (.int .i64 i) z = .lit (.string s)
theorem lit_wf (i : Nat) (h : i < 9223372036854775808) : (Lit.int .i64 i).wf = true := by
  simp [Lit.wf, IntKind.min, IntKind.max, IntKind.bits, IntKind.signed]
  omega
theorem Reads.size {D : DataW Unit} {N : Nat} {L : Nat → Option (List UInt8)} (h : Reads D N L) (ht : Tidy D) : Maps.size D ≤ N := by
  obtain ⟨es, rfl, hp⟩ := ht
  have hk := h.keys es rfl
  let f : Lit × DataW Unit → Nat := fun p => match p.1 with | .int _ z => z.toNat | _ => 0
  have h1 : (es.map f).length ≤ N := by
    refine nodup_below N _ ?_ ?_
    · rw [List.pairwise_map]
      refine hp.imp_of_mem fun {a b} ha hb hne e => hne ?_
      obtain ⟨i, hi, ei⟩ := hk a ha
      obtain ⟨j, hj, ej⟩ := hk b hb
      have : i = j := by
        have e' : f a = f b := e
        simp only [f, ei, ej, Int.toNat_natCast] at e'
        exact e'
      rw [ei, ej, this]
    · intro x hx
      obtain ⟨p, hp, rfl⟩ := List.mem_map.1 hx
      obtain ⟨i, hi, ei⟩ := hk p hp
      simp only [f, ei, Int.toNat_natCast]
      exact hi
  rw [List.length_map] at h1
  exact h1
/-- Block b is a map that has these texts, at numbers below N. -/
def MapIs (w : World) (b N : Nat) (L : Nat → Option (List UInt8)) : Prop := ∃ D : DataW Unit, w.ownsMap Try.prog 3 (plainElem (H := Unit) Try.prog 9) b N D ∧ Reads D N L
theorem owns_tight {w : World} {b n : Nat} {D : DataW Unit} (h : w.ownsMap Try.prog 3 (plainElem (H := Unit) Try.prog 9) b n D) : w.ownsMap Try.prog 3 (plainElem (H := Unit) Try.prog 9) b (Maps.size D) D := by
  obtain ⟨es, clock, hb, F, _, rfl⟩ := h
  exact ⟨es, clock, hb, F, by rw [Maps.size_eq, length_sorted]; simp, rfl⟩
theorem MapIs.of {w : World} {b n N : Nat} {D : DataW Unit} {L : Nat → Option (List UInt8)} (h : w.ownsMap Try.prog 3 (plainElem (H := Unit) Try.prog 9) b n D) (hr : Reads D N L) : MapIs w b N L :=
  ⟨D, (owns_tight h).mono (hr.size (h.tidy law)), hr⟩
theorem reads_empty (N : Nat) : Reads (.map []) N (fun _ => none) where
  keys := fun es h p hp => by injection h with h; subst h; cases hp
  has := fun i _ => rfl
  val := fun i s _ h => by cases h
theorem mapIs_made (w : World) (N : Nat) : MapIs (w.alloc (.map #[] 0)) w.heap.size N (fun _ => none) :=
  .of (World.ownsMap_made w Try.prog 3 (plainElem (H := Unit) Try.prog 9)) (reads_empty N)
theorem MapIs.kept {w w' : World} {b N : Nat} {L : Nat → Option (List UInt8)} {row : Option Nat} (h : MapIs w b N L) (hg : w.grownBy w' row) (hne : some b ≠ row) : MapIs w' b N L := by
  obtain ⟨D, h1, h2⟩ := h
  exact ⟨D, h1.kept hg hne, h2⟩
theorem MapIs.below {w w' : World} {b N : Nat} {L : Nat → Option (List UInt8)} (h : MapIs w b N L) (hb : Below w.heap.size w w') : MapIs w' b N L :=
  h.kept (row := none) ⟨hb.os, hb.tape, hb.output, hb.size, fun k hk _ => hb.block k hk⟩ (by simp)
theorem MapIs.lt {w : World} {b N : Nat} {L : Nat → Option (List UInt8)} (h : MapIs w b N L) : b < w.heap.size := by
  obtain ⟨D, h1, _⟩ := h
  exact h1.lt
theorem MapIs.heap {w w' : World} {b N : Nat} {L : Nat → Option (List UInt8)} (h : MapIs w b N L) (e : w'.heap = w.heap) : MapIs w' b N L := by
  obtain ⟨D, ⟨es, clock, hb, r⟩, h2⟩ := h
  exact ⟨D, ⟨es, clock, by rw [e]; exact hb, r⟩, h2⟩
theorem reads_put {D : DataW Unit} {N : Nat} {L : Nat → Option (List UInt8)} (h : Reads D N L) (hm : IsMap D) (hN : N ≤ 9223372036854775807) (i : Nat) (hi : i < N) (s : List UInt8) :
    Reads (D.put (.int .i64 i) (.lit (.string s))) N (fun j => if j = i then some s else L j) := by
  have hik := isKey_of i (by omega)
  refine ⟨fun es he p hp => ?_, fun j hj => ?_, fun j s' hj he z => ?_⟩
  · obtain ⟨es0, rfl⟩ := hm
    rw [DataW.put_eq] at he
    injection he with he
    subst he
    rcases mem_insert_iff.1 hp with rfl | hp
    · exact ⟨i, hi, rfl⟩
    · exact h.keys es0 rfl p ((List.mem_filter.1 hp).1)
  · by_cases e : j = i
    · subst e
      rw [if_pos rfl, has_put_same hm hik]; rfl
    · rw [if_neg e, has_put_other (by intro e2; injection e2 with _ e2; omega), h.has j hj]
  · by_cases e : j = i
    · subst e
      rw [if_pos rfl] at he
      injection he with he
      subst he
      exact atKey_put_same hm hik _ z
    · rw [if_neg e] at he
      rw [atKey_put_other (by intro e2; injection e2 with _ e2; omega)]
      exact h.val j s' hj he z
theorem str_of {c : ByteArray} {t : List UInt8} (h : c.data.toList = t) : c = str t := by
  subst h; exact (by cases c; rfl)
/-- 'v, ok := m[i]'. -/
theorem MapIs.look {w : World} {b N : Nat} {L : Nat → Option (List UInt8)} (h : MapIs w b N L) (hN : N ≤ 9223372036854775807) (i : Nat) (hi : i < N) :
    (Instr.lookup 77 (.map (some b)) (.int .i64 i) true).run Try.prog w = .ok (.tuple #[.string (str ((L i).getD [])), .bool (L i).isSome]) w := by
  obtain ⟨D, h1, h2⟩ := h
  obtain ⟨v, ps, hrun, hv⟩ := h1.look_ok law Try.underlying77 (zeroS w) (plainElem_string Try.underlying9 (s := ByteArray.empty) (by decide)) (key_of i (by omega))
  obtain ⟨c, rfl, hc, _⟩ := plainElem_string_inv Try.underlying9 hv
  injection hc with hc _
  rw [h2.has i hi] at hrun
  cases e : L i with
  | none =>
    rw [e] at hrun
    have hn : Maps.has D (.int .i64 i) = false := by rw [h2.has i hi, e]; rfl
    rw [atKey_of_not_has hn] at hc
    injection hc with hc
    injection hc with hc
    rw [hrun, str_of hc.symm]; rfl
  | some t =>
    rw [e] at hrun
    rw [h2.val i t hi e] at hc
    injection hc with hc
    injection hc with hc
    rw [hrun, str_of hc.symm]; rfl
/-- 'm[i]'. -/
theorem MapIs.get {w : World} {b N : Nat} {L : Nat → Option (List UInt8)} (h : MapIs w b N L) (hN : N ≤ 9223372036854775807) (i : Nat) (hi : i < N) :
    (Instr.lookup 77 (.map (some b)) (.int .i64 i) false).run Try.prog w = .ok (.string (str ((L i).getD []))) w := by
  obtain ⟨D, h1, h2⟩ := h
  obtain ⟨v, ps, hrun, hv⟩ := h1.lookup law Try.underlying77 (zeroS w) (plainElem_string Try.underlying9 (s := ByteArray.empty) (by decide)) (key_of i (by omega))
  obtain ⟨c, rfl, hc, _⟩ := plainElem_string_inv Try.underlying9 hv
  injection hc with hc _
  cases e : L i with
  | none =>
    have hn : Maps.has D (.int .i64 i) = false := by rw [h2.has i hi, e]; rfl
    rw [atKey_of_not_has hn] at hc
    injection hc with hc
    injection hc with hc
    rw [hrun, str_of hc.symm]; rfl
  | some t =>
    rw [h2.val i t hi e] at hc
    injection hc with hc
    injection hc with hc
    rw [hrun, str_of hc.symm]; rfl
/-- 'm[i] = s'. -/
theorem MapIs.store {w : World} {b N : Nat} {L : Nat → Option (List UInt8)} (h : MapIs w b N L) (hN : N ≤ 9223372036854775806) (i : Nat) (hi : i < N) (s : List UInt8) (hs : s.length ≤ 9223372036854775807) :
    ∃ w', (Instr.mapUpdate 77 (.map (some b)) (.int .i64 i) (.string (str s))).run Try.prog w = .ok () w' ∧ MapIs w' b N (fun j => if j = i then some s else L j) ∧ w.grownBy w' (some b) := by
  obtain ⟨D, h1, h2⟩ := h
  obtain ⟨w', hrun, h3, h4⟩ := h1.update law Try.underlying77 (show N < maxLen from Nat.lt_of_le_of_lt hN (by decide)) (key_of i (by omega)) (plainElem_string Try.underlying9 (s := str s) (by rw [str_size]; exact hs))
  exact ⟨w', hrun, .of h3 (reads_put h2 h1.isMap (by omega) i hi s), h4⟩
theorem run_clear_map {P : Program} {w : World} {t ty k e : TypeId} (ht : P.underlying t = some (.map k e)) {b : Nat} {es : Array MapEntry} {clock : Nat} (hb : w.heap[b]? = some (.map es clock)) :
    (Builtin.clear_ #[t] ty #[.map (some b)]).run P w = .ok (.tuple #[]) (setBlock w b (.map #[] clock)) := by
  simp [Builtin.clear_, run_underlying ht, MapKept.run_getObj_map hb, MapKept.run_setObj_map _ hb, setBlock]
theorem MapIs.clear {w : World} {b N : Nat} {L : Nat → Option (List UInt8)} (h : MapIs w b N L) (ty : TypeId) :
    ∃ w', (Builtin.clear_ #[77] ty #[.map (some b)]).run Try.prog w = .ok (.tuple #[]) w' ∧ MapIs w' b N (fun _ => none) ∧ w.grownBy w' (some b) := by
  obtain ⟨D, ⟨es, clock, hb, F, hs, hD⟩, h2⟩ := h
  refine ⟨_, run_clear_map Try.underlying77 hb, ⟨.map [], ⟨#[], clock, heap_setBlock_same hb _, ⟨by simp, MapKept.stamped_empty clock, by simp⟩, Nat.zero_le _, rfl⟩, reads_empty N⟩, ⟨rfl, rfl, rfl, by simp [setBlock], fun i _ hi => heap_setBlock_other hb _ (fun e => hi (by rw [e]))⟩⟩
/-- 'for i, s := range m' under way: which are still to come. -/
def MapRg (w : World) (b r N : Nat) (L : Nat → Option (List UInt8)) (left : Nat → Bool) (cnt : Nat) : Prop :=
  ∃ (D : DataW Unit) (lf : Lit → Bool), w.ranges Try.prog 3 (plainElem (H := Unit) Try.prog 9) b r N D lf cnt ∧ Reads D N L ∧ ∀ i : Nat, i < N → lf (.int .i64 i) = left i
theorem MapRg.isMap {w : World} {b r N cnt : Nat} {L : Nat → Option (List UInt8)} {left : Nat → Bool} (h : MapRg w b r N L left cnt) : MapIs w b N L := by
  obtain ⟨D, lf, h1, h2, _⟩ := h
  exact ⟨D, h1.owns, h2⟩
theorem MapRg.kept {w w' : World} {b r N cnt : Nat} {L : Nat → Option (List UInt8)} {left : Nat → Bool} {row : Option Nat} (h : MapRg w b r N L left cnt) (hg : w.grownBy w' row) (hb : some b ≠ row) (hr : some r ≠ row) : MapRg w' b r N L left cnt := by
  obtain ⟨D, lf, h1, h2, h3⟩ := h
  exact ⟨D, lf, h1.kept hg hb hr, h2, h3⟩
theorem MapRg.ne {w : World} {b r N cnt : Nat} {L : Nat → Option (List UInt8)} {left : Nat → Bool} (h : MapRg w b r N L left cnt) : r ≠ b := by
  obtain ⟨D, lf, h1, _⟩ := h
  exact h1.ne
section
variable {w : World} {ops : Array Oper} {rest : List Oper} {o : Oper} {a : Act} {Q : Exit → Act → World → Prop}
theorem wpList_range_map (hg : o.guard = none) (m : Operand) (hop : o.op = Op.range 77 m) (b N : Nat) (L : Nat → Option (List UInt8)) (hm : a.eval m = .map (some b)) (h : MapIs w b N L)
    (hK : ∀ w' cnt, MapRg w' b w.heap.size N L (fun i => (L i).isSome) cnt → w.grownBy w' none → w'.heap.size = w.heap.size + 1 → wpList Try.prog ops Q rest (a.put o.dst (.pointer (some ⟨w.heap.size, 0, none⟩))) w') :
    wpList Try.prog ops Q (o :: rest) a w := by
  obtain ⟨D, h1, h2⟩ := h
  refine wpList_range_own w hg m 77 hop 3 9 law Try.underlying77 (plainElem (H := Unit) Try.prog 9) b N D hm h1 fun w' hr hgr hs => hK w' _ ⟨D, _, hr, h2, fun i hi => h2.has i hi⟩ hgr hs
theorem wpList_next_map (hg : o.guard = none) (it : Operand) (hop : o.op = Op.next it false) (b r N : Nat) (L : Nat → Option (List UInt8)) (left : Nat → Bool) (cnt : Nat) (hN : N ≤ 9223372036854775807) (hit : a.eval it = .pointer (some ⟨r, 0, none⟩)) (h : MapRg w b r N L left cnt)
    (hDone : (∀ i, i < N → left i = false) → wpList Try.prog ops Q rest (a.put o.dst (.tuple #[.bool false])) w)
    (hMore : ∀ (i : Nat) (s : List UInt8) (w' : World) (cnt' : Nat), i < N → left i = true → L i = some s → s.length ≤ 9223372036854775807 → MapRg w' b r N L (fun j => left j && !decide (j = i)) cnt' → cnt' < cnt → w.grownBy w' (some r) → w'.heap.size = w.heap.size →
      (Instr.entry (.pointer (some ⟨r, 0, none⟩))).run Try.prog w' = .ok (.tuple #[.int .i64 i, .string (str s)]) w' → wpList Try.prog ops Q rest (a.put o.dst (.tuple #[.bool true, .int .i64 i, .string (str s)])) w') :
    wpList Try.prog ops Q (o :: rest) a w := by
  obtain ⟨D, lf, h1, h2, h3⟩ := h
  refine wpList_next_ranges_is w hg it hop 3 9 .i64 law Try.underlying3 Try.underlying9 b r N D lf cnt hit h1 (fun _ hl => hDone fun i hi => by rw [← h3 i hi]; exact hl _) ?_
  intro x c w' cnt' hwx hwc hlx hat hrg hlt hgr hsz hen
  obtain ⟨es, clock, since, seen, c0, hb, F, hs, hD, hr, h5, h6, h7, h8, h9⟩ := h1
  obtain ⟨e, he, hek⟩ := h8 _ hlx
  obtain ⟨i, hi, hxi⟩ := h2.keys _ hD (Go.WideElems.rg Try.prog 3 (plainElem (H := Unit) Try.prog 9) e) (mem_sorted.2 (List.mem_map_of_mem he))
  rw [hek] at hxi
  injection hxi with _ hxi
  subst hxi
  have hli : left i = true := by rw [← h3 i hi]; exact hlx
  have hhas : Maps.has D (.int .i64 i) = true := Maps.has_true_of_atKey hat
  rw [h2.has i hi] at hhas
  obtain ⟨s, hsL⟩ := Option.isSome_iff_exists.1 hhas
  have hv := h2.val i s hi hsL (.lit (.string []))
  rw [hat] at hv
  injection hv with hv
  injection hv with hv
  have hcs := str_of hv
  subst hcs
  refine hMore i s w' cnt' hi hli hsL (by rw [str_size] at hwc; exact hwc) ⟨D, _, hrg, h2, fun j hj => ?_⟩ hlt hgr hsz hen
  rw [h3 j hj]
  congr 2
  rw [Bool.eq_iff_iff, decide_eq_true_eq, WideAt.sameKey_iff (isKey_of i (by omega))]
  constructor
  · intro e; injection e with _ e; omega
  · intro e; rw [e]
end
end Go.Proofs.Ytjfpanamkkdebaa
