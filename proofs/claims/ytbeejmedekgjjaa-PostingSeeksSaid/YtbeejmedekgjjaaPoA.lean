/- Postings in memory. -/
import Derived.Test.YtbeejmedekgjjaaCoT5
import Derived.Test.YtbeejmedekgjjaaCo6
import Derived.Deep.Cut
import Derived.Deep.WholeRow
import Derived.Deep.MidRow
namespace Go.Proofs.Ytbeejmedekgjjaa
open Go.RowKit
set_option linter.unusedVariables false
set_option linter.unusedSimpArgs false
section
variable {α : Type} {f : α → List Value} {n : Nat}
theorem flat_length (hf : ∀ x, (f x).length = n) : ∀ l : List α, (l.flatMap f).length = l.length * n
  | [] => by simp
  | h :: l => by rw [List.flatMap_cons, List.length_append, hf h, flat_length hf l, List.length_cons, Nat.succ_mul, Nat.add_comm]
theorem flat_at (hf : ∀ x, (f x).length = n) : ∀ (l : List α) (j k : Nat) (hj : j < l.length), k < n → (l.flatMap f)[j * n + k]? = (f l[j])[k]?
  | [], _, _, hj, _ => by cases hj
  | h :: l, 0, k, _, hk => by
    have := hf h
    rw [List.flatMap_cons, Nat.zero_mul, Nat.zero_add, List.getElem?_append_left (by omega)]; rfl
  | h :: l, j + 1, k, hj, hk => by
    have := hf h
    rw [List.flatMap_cons, List.getElem?_append_right (by rw [this, Nat.succ_mul]; omega), this, show (j + 1) * n + k - n = j * n + k by rw [Nat.succ_mul]; omega]
    exact flat_at hf l j k (by simpa using hj) hk
theorem flat_lies (hf : ∀ x, (f x).length = n) (hn : 0 < n) {w : World} {a : Addr} {l : List α} (h : ∀ i (hi : i < l.length) k v, (f l[i])[k]? = some v → w.cell? ((a.add (i * n)).add k) = some v) : Lies w (some a) (l.flatMap f) := by
  intro K v hK
  have hlt : K < l.length * n := by rw [← flat_length hf l]; exact (List.getElem?_eq_some_iff.1 hK).1
  have hi : K / n < l.length := (Nat.div_lt_iff_lt_mul hn).2 hlt
  have hk : K % n < n := Nat.mod_lt _ hn
  have e : K = K / n * n + K % n := by rw [Nat.mul_comm]; exact (Nat.div_add_mod K n).symm
  rw [e, flat_at hf l _ _ hi hk] at hK
  have := h _ hi _ _ hK
  rw [Addr.add_add, ← e] at this
  exact ⟨a, rfl, this⟩
theorem flat_get (hf : ∀ x, (f x).length = n) (hn : 0 < n) {w : World} {A : Option Addr} {l : List α} (h : Lies w A (l.flatMap f)) (j : Nat) (hj : j < l.length) : ∃ a, A = some a ∧ ∀ k v, (f l[j])[k]? = some v → w.cell? ((a.add (j * n)).add k) = some v := by
  have h1 : (f l[j])[0]? = some ((f l[j])[0]'(by rw [hf]; exact hn)) := List.getElem?_eq_getElem _
  have h0 : (l.flatMap f)[j * n + 0]? = some ((f l[j])[0]'(by rw [hf]; exact hn)) := by rw [flat_at hf l j 0 hj hn]; exact h1
  obtain ⟨a, rfl, _⟩ := h _ _ h0
  refine ⟨a, rfl, fun k v hk => ?_⟩
  have hk2 : k < n := by have := (List.getElem?_eq_some_iff.1 hk).1; rwa [hf] at this
  rw [← flat_at hf l j k hj hk2] at hk
  obtain ⟨a', e, hc⟩ := h _ _ hk
  cases e
  rw [Addr.add_add]
  exact hc
end
/-- A row or a struct out of memory, at any address. -/
theorem wpList_load_any {P : Program} {ops : Array Oper} {rest : List Oper} {op : Oper} {a : Act} {w : World} {Q : Exit → Act → World → Prop} (hgd : op.guard = none) (ty : TypeId) (x : Operand) (ho : op.op = .load ty x)
    (b : Addr) (hx : a.eval x = .pointer (some b)) (cs : List Value) (d : TypeDesc) (hc : ∀ j v, cs[j]? = some v → w.cell? (b.add j) = some v)
    (hu : P.underlying ty = some d) (hd : d.isRow = true) (hi : (P.info? ty).map (·.size) = some cs.length)
    (h : wpList P ops Q rest (a.put op.dst (.agg cs.toArray)) w) : wpList P ops Q (op :: rest) a w := by
  refine wpList_plain hgd fun K hK => ?_
  have hl : (loadCells b cs.length).run P w = .ok cs.toArray w := run_loadCells_list (P := P) w b cs hc
  have hv : (loadVar ty b).run P w = .ok (.agg cs.toArray) w := by
    cases hq : P.info? ty with
    | none => simp [hq] at hi
    | some i =>
      have hs : i.size = cs.length := by simpa [hq] using hi
      have hagg : (isAgg ty).run P w = .ok true w := by
        unfold isAgg
        rw [Sem.run_bind, run_underlying hu w]
        cases d <;> simp_all
      simp [loadVar, Sem.run_bind, hagg, sizeOf, typeInfo, hq, hs, hl]
  unfold Oper.wp execOp
  simp only [ho, hx, Instr.loadAt, Instr.sureAddr, Sem.run_bind, Sem.run_pure, Result.andThen_ok, hv]
  exact hK _ _ h
/-- Where a term stands in a field: plain; a posting: plain. -/
abbrev Spt := Int × List Int
structure Post where
  doc : Int
  spots : List Spt
/-- .. and where they lie. -/
structure LSpot where
  f : Int
  A : Option Addr
  c : Nat
  l : List Int
structure LPost where
  d : Int
  S : Option Addr
  c : Nat
  spots : List LSpot
def sk (s : LSpot) : List Value := [.int .i64 s.f, .slice s.A s.l.length s.c]
def pk (p : LPost) : List Value := [.int .i64 p.d, .slice p.S p.spots.length p.c]
def LSpot.p (s : LSpot) : Spt := (s.f, s.l)
def LPost.p (p : LPost) : Post := ⟨p.d, p.spots.map LSpot.p⟩
theorem sk_length (s : LSpot) : (sk s).length = 2 := rfl
theorem pk_length (p : LPost) : (pk p).length = 2 := rfl
/-- A whole number that a cell can hold. -/
def I64 (z : Int) : Prop := -9223372036854775808 ≤ z ∧ z ≤ 9223372036854775807
structure LSpot.In (s : LSpot) (w : World) : Prop where
  li : Lies w s.A (s.l.map (Value.int .i64))
  c : s.l.length ≤ s.c
  m : s.l.length ≤ 9223372036854775807
  z : ∀ z ∈ s.l, I64 z
  f : I64 s.f
structure LPost.In (p : LPost) (w : World) : Prop where
  li : Lies w p.S (p.spots.flatMap sk)
  c : p.spots.length ≤ p.c
  m : p.spots.length ≤ 9223372036854775807
  s : ∀ s ∈ p.spots, s.In w
  d : I64 p.d
theorem LSpot.In.below {s : LSpot} {w w' : World} (h : s.In w) (hb : Below w.heap.size w w') : s.In w' := ⟨h.li.below hb, h.c, h.m, h.z, h.f⟩
theorem LPost.In.below {p : LPost} {w w' : World} (h : p.In w) (hb : Below w.heap.size w w') : p.In w' := ⟨h.li.below hb, h.c, h.m, fun s hs => (h.s s hs).below hb, h.d⟩
/-- Postings in memory. -/
structure Posts (w : World) (A : Option Addr) (c : Nat) (ls : List LPost) : Prop where
  li : Lies w A (ls.flatMap pk)
  i : ∀ p ∈ ls, p.In w
  c : ls.length ≤ c
  m : ls.length ≤ 9223372036854775807
theorem Posts.below {w w' : World} {A : Option Addr} {c : Nat} {ls : List LPost} (h : Posts w A c ls) (hb : Below w.heap.size w w') : Posts w' A c ls := ⟨h.li.below hb, fun p hp => (h.i p hp).below hb, h.c, h.m⟩
theorem info_posting : (Try.prog.info? 40).map (·.size) = some 2 := by kernel_rfl
theorem info_spot : (Try.prog.info? 46).map (·.size) = some 2 := by kernel_rfl
/-- Numbers that rise, above one and not above another. -/
def upFrom (last high : Int) : List Int → Bool
  | [] => true
  | z :: t => decide (last < z) && decide (z ≤ high) && upFrom z high t
def placesB (l : List Int) : Bool := upFrom (-1) 59 l && !l.isEmpty
def spotsB (l : List Spt) : Bool := l.all (fun s => placesB s.2) && upFrom 0 4 (l.map (·.1)) && !l.isEmpty
def fitsB (p : Post) : Bool := spotsB p.spots && decide (0 ≤ p.doc) && decide (p.doc < 65536)
def chkFrom (last : Int) : List Post → Bool
  | [] => true
  | p :: t => fitsB p && decide (last < p.doc) && chkFrom p.doc t
def chkB (l : List Post) : Bool := chkFrom (-1) l
/-- The last one so far. -/
def lastIn (last : Int) (l : List Int) : Int := l.getLast?.getD last
theorem lastIn_snoc (last : Int) (l : List Int) (z : Int) : lastIn last (l ++ [z]) = z := by simp [lastIn]
theorem upFrom_append (high : Int) : ∀ (l m : List Int) (last : Int), upFrom last high (l ++ m) = (upFrom last high l && upFrom (lastIn last l) high m)
  | [], m, last => by simp [upFrom, lastIn]
  | z :: l, m, last => by
    have e : lastIn last (z :: l) = lastIn z l := by
      cases l with
      | nil => rfl
      | cons y l => simp [lastIn, List.getLast?_cons]
    rw [List.cons_append, upFrom, upFrom, upFrom_append high l m z, e]
    simp only [Bool.and_assoc]
theorem upFrom_snoc (high : Int) (l : List Int) (z last : Int) : upFrom last high (l ++ [z]) = (upFrom last high l && (decide (lastIn last l < z) && decide (z ≤ high))) := by
  rw [upFrom_append]
  simp [upFrom]
theorem take_snoc {α : Type} {l : List α} {j : Nat} (hj : j < l.length) : l.take (j + 1) = l.take j ++ [l[j]] := by
  rw [List.take_add_one, List.getElem?_eq_getElem hj]; rfl
theorem upFrom_stop {high last : Int} {l : List Int} {j : Nat} (hj : j < l.length) (h : upFrom last high (l.take (j + 1)) = false) : upFrom last high l = false := by
  rw [← List.take_append_drop (j + 1) l, upFrom_append, h]
  rfl
end Go.Proofs.Ytbeejmedekgjjaa
