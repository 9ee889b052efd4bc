/- Words that all walks share: how a list of bytes, of numbers, lies in memory.
   Laws of append and make, in one form each, for rows that the call itself makes.
   A device of pages, plain: what it has, and what each act makes of it.
   An append of one value that lies in a block of its own, and where the new slice lies.
   A map of numbers to texts in memory.
   Bytes that a call makes; the library's Clone and Equal of bytes.
   What the rows of this chapter's laws read of their arguments. -/
import Derived.WalkKit
import Derived.Laws.OwnMore
import Derived.Below
import Derived.Lib.Hide
import Derived.OwnWalk
import Derived.Laws.AppendOwn
import Derived.Laws.MakeOwn
import Derived.DataElems
import Derived.Laws.Slices
import Derived.Laws.BytesArg
import Derived.Laws.IdiomStrings
import Derived.Lib.ConvBytes
import Derived.Deep.AppendLies
import Derived.Test.YtjfpanamkkdebaaChecked
import Derived.Maps.StringElems
import Derived.Maps.OwnOps
import Derived.Maps.Ext
import Derived.WalkLawsBesides
import Derived.WalkSpells
import Derived.Outline
import Derived.LoopTactic
import Derived.Deep.LoopGhost
import Derived.Deep.RegionLaw
import Derived.ProofKit
import Derived.OpenShut
import Derived.SizedLaws
import Derived.ChangeSlices
namespace Go.Proofs.Ytjfpanamkkdebaa
open Go.RowKit
/-- A byte as the cell that holds it. -/
def vb (b : UInt8) : Value := .int .u8 (b.toNat : Int)
/-- Values lie in a row at an address; of no values nothing is said. -/
def Lies (w : World) (A : Option Addr) (vs : List Value) : Prop := ∀ k v, vs[k]? = some v → ∃ a, A = some a ∧ w.cell? (a.add k) = some v
theorem Lies.at {w : World} {A : Option Addr} {vs : List Value} (h : Lies w A vs) {k : Nat} (hk : k < vs.length) : ∃ a, A = some a ∧ w.cell? (a.add k) = some vs[k] :=
  h k _ (List.getElem?_eq_getElem hk)
theorem Lies.nil (w : World) (A : Option Addr) : Lies w A [] := fun k v h => by simp at h
/-- What was there lies there behind a call that turns nothing that was there. -/
theorem Lies.below {w w' : World} {A : Option Addr} {vs : List Value} (h : Lies w A vs) (hb : Below w.heap.size w w') : Lies w' A vs := by
  intro k v hk
  obtain ⟨a, rfl, hc⟩ := h k v hk
  have hlt := World.block_lt_of_cell? w _ hc
  exact ⟨a, rfl, by rw [hb.cell hlt]; exact hc⟩
/-- Bytes lie in a row at an address. -/
def RB (w : World) (A : Option Addr) (bs : List UInt8) : Prop := Lies w A (bs.map vb)
theorem RB.at {w : World} {A : Option Addr} {bs : List UInt8} (h : RB w A bs) {k : Nat} (hk : k < bs.length) : ∃ a, A = some a ∧ w.cell? (a.add k) = some (.int .u8 (bs[k].toNat : Int)) := by
  obtain ⟨a, ha, hc⟩ := Lies.at h (k := k) (by simpa using hk)
  exact ⟨a, ha, by simpa [vb] using hc⟩
theorem RB.below {w w' : World} {A : Option Addr} {bs : List UInt8} (h : RB w A bs) (hb : Below w.heap.size w w') : RB w' A bs := Lies.below h hb
theorem ret_int {k : IntKind} {a b : Int} (h : a = b) : Ending.returned (.int k a) = .returned (.int k b) := by rw [h]
end Go.Proofs.Ytjfpanamkkdebaa
namespace Go.Proofs.Ytjfpanamkkdebaa
open Go.RowKit
set_option linter.unusedVariables false
theorem Lies.grown {w w' : World} {A : Option Addr} {vs : List Value} {row : Option Nat} (h : Lies w A vs) (hg : w.grownBy w' row) (hr : ∀ a, A = some a → some a.block ≠ row) : Lies w' A vs := by
  intro k v hk
  obtain ⟨a, rfl, hc⟩ := h k v hk
  exact ⟨a, rfl, hg.cell hc (by have := hr a rfl; cases h : row <;> simp_all [Addr.add]; split <;> simp_all)⟩
/-- An owned row lies at its address. -/
theorem Lies.of_own {w : World} {base : Nat} {e : TypeId} {size : Nat} {A : Option Addr} {n c m : Nat} {xs : List Value} (h : w.ownsRow base e size (.slice A n c) m xs) : Lies w A xs := by
  intro k v hk
  rcases h.2 with ⟨hv, rfl⟩ | ⟨g, cap, cur, hv, _⟩
  · have : xs = [] := List.eq_nil_of_length_eq_zero (by simpa using h.1)
    subst this
    simp at hk
  · simp only [Value.slice.injEq] at hv
    obtain ⟨rfl, rfl, rfl⟩ := hv
    exact ⟨_, rfl, h.cells (g := g) rfl k v hk⟩
/-- The value of an owned row is a slice. -/
theorem own_form {w : World} {base : Nat} {e : TypeId} {size : Nat} {v : Value} {n : Nat} {xs : List Value} (h : w.ownsRow base e size v n xs) : ∃ A c, v = .slice A n c ∧ n ≤ c := by
  rcases h.2 with ⟨rfl, rfl⟩ | ⟨g, cap, cur, rfl, _, _, h, _⟩
  · exact ⟨_, _, rfl, Nat.le_refl _⟩
  · exact ⟨_, _, rfl, h⟩
section
variable {P : Program} (w : World)
theorem run_app (base : Nat) (t ty e : TypeId) (z : Value) (size bytes : Nat) (ht : P.underlying t = some (.slice e))
    (hinfo : (P.info? e).map (fun i => (i.zero, i.size, i.bytes)) = some (some z, size, bytes)) (hzs : z.cells.size = size) (hsz : 0 < size)
    (v : Value) (n : Nat) (xs : List Value) (hown : w.ownsRow base e size v n xs)
    (B : Option Addr) (m c : Nat) (news : List Value) (hl : news.length = m * size) (hnews : Lies w B news) (h1 : ∀ u ∈ news, u.oneCell' = true) (hB : B = none → c = 0)
    (h63 : n + m ≤ maxLen) (hbytes : (n + m) * bytes ≤ 140737488355328) (hbase : base ≤ w.heap.size) :
    ∃ v' w', (Builtin.append_ #[t, t] ty #[v, .slice B m c]).run P w = .ok v' w' ∧ w'.ownsRow base e size v' (n + m) (xs ++ news) ∧ w.grownBy w' v.ownBlock ∧
      (v' = .slice none 0 0 ↔ v = .slice none 0 0 ∧ m = 0) := by
  obtain ⟨i, hi, hz, hsize, hby⟩ := info_parts hinfo
  cases B with
  | some ad =>
    refine run_append_own w base t ty e i z size bytes ht hi hz hsize hby hzs hsz v n xs hown ad m c news hl ?_ h1 h63 hbytes hbase
    intro j u hu
    obtain ⟨a, ha, hc⟩ := hnews j u hu
    cases ha
    exact hc
  | none =>
    have hn : news = [] := by
      cases news with
      | nil => rfl
      | cons x news => obtain ⟨a, ha, _⟩ := hnews 0 x rfl; cases ha
    subst hn
    obtain rfl : m = 0 := by
      rcases Nat.eq_zero_or_pos m with h | h
      · exact h
      · have := Nat.mul_pos h hsz; simp at hl; omega
    obtain rfl := hB rfl
    refine ⟨v, w, run_append_owned_none w base t ty e i size ht hi v n xs hown, by simpa using hown, ⟨rfl, rfl, rfl, Nat.le_refl _, fun _ _ _ => rfl⟩, by simp⟩
theorem wp_app {o : Oper} {a : Act} {K : Act → World → Prop} {Q : Exit → Act → World → Prop} (s x : Operand) (t : TypeId)
    (ho : o.op = .call { callee := .builtin .append, args := #[s, x], argTypes := #[t, t] })
    (base : Nat) (e : TypeId) (z : Value) (size bytes : Nat) (ht : P.underlying t = some (.slice e))
    (hinfo : (P.info? e).map (fun i => (i.zero, i.size, i.bytes)) = some (some z, size, bytes)) (hzs : z.cells.size = size) (hsz : 0 < size)
    (v : Value) (n : Nat) (xs : List Value) (hs : a.eval s = v) (hown : w.ownsRow base e size v n xs)
    (B : Option Addr) (m c : Nat) (news : List Value) (hx : a.eval x = .slice B m c) (hl : news.length = m * size) (hnews : Lies w B news) (h1 : ∀ u ∈ news, u.oneCell' = true) (hB : B = none → c = 0)
    (h63 : n + m ≤ maxLen) (hbytes : (n + m) * bytes ≤ 140737488355328) (hbase : base ≤ w.heap.size)
    (h : ∀ v' w', w'.ownsRow base e size v' (n + m) (xs ++ news) → w.grownBy w' v.ownBlock → (v' = .slice none 0 0 ↔ v = .slice none 0 0 ∧ m = 0) → K (a.put o.dst v') w') : o.wp P a w K Q := by
  obtain ⟨v', w', hr, h2, h3, h4⟩ := run_app (P := P) w base t o.type e z size bytes ht hinfo hzs hsz v n xs hown B m c news hl hnews h1 hB h63 hbytes hbase
  unfold Oper.wp execOp
  simp only [ho, resolve, invoke, builtin, Sem.run_bind, Sem.run_pure, Result.andThen_ok, List.map_toArray, List.map_cons, List.map_nil, hs, hx, hr]
  exact h v' w' h2 h3 h4
theorem wpList_app {ops : Array Oper} {rest : List Oper} {o : Oper} {a : Act} {Q : Exit → Act → World → Prop} (hgd : o.guard = none) (s x : Operand) (t : TypeId)
    (ho : o.op = .call { callee := .builtin .append, args := #[s, x], argTypes := #[t, t] })
    (base : Nat) (e : TypeId) (z : Value) (size bytes : Nat) (ht : P.underlying t = some (.slice e))
    (hinfo : (P.info? e).map (fun i => (i.zero, i.size, i.bytes)) = some (some z, size, bytes)) (hzs : z.cells.size = size) (hsz : 0 < size)
    (v : Value) (n : Nat) (xs : List Value) (hs : a.eval s = v) (hown : w.ownsRow base e size v n xs)
    (B : Option Addr) (m c : Nat) (news : List Value) (hx : a.eval x = .slice B m c) (hl : news.length = m * size) (hnews : Lies w B news) (h1 : ∀ u ∈ news, u.oneCell' = true) (hB : B = none → c = 0)
    (h63 : n + m ≤ maxLen) (hbytes : (n + m) * bytes ≤ 140737488355328) (hbase : base ≤ w.heap.size)
    (h : ∀ v' w', w'.ownsRow base e size v' (n + m) (xs ++ news) → w.grownBy w' v.ownBlock → (v' = .slice none 0 0 ↔ v = .slice none 0 0 ∧ m = 0) → wpList P ops Q rest (a.put o.dst v') w') : wpList P ops Q (o :: rest) a w :=
  wpList_plain hgd fun K hK => wp_app w s x t ho base e z size bytes ht hinfo hzs hsz v n xs hs hown B m c news hx hl hnews h1 hB h63 hbytes hbase fun v' w' h2 h3 h4 => hK _ _ (h v' w' h2 h3 h4)
theorem step_app {ops : Array Oper} {o : Oper} {a : Act} {K : Act → World → Prop} {Q : Exit → Act → World → Prop} {E : Prop} (hgd : o.guard = none) (s x : Operand) (t : TypeId)
    (ho : o.op = .call { callee := .builtin .append, args := #[s, x], argTypes := #[t, t] })
    (base : Nat) (e : TypeId) (z : Value) (size bytes : Nat) (ht : P.underlying t = some (.slice e))
    (hinfo : (P.info? e).map (fun i => (i.zero, i.size, i.bytes)) = some (some z, size, bytes)) (hzs : z.cells.size = size) (hsz : 0 < size)
    (v : Value) (n : Nat) (xs : List Value) (hs : a.eval s = v) (hown : w.ownsRow base e size v n xs)
    (B : Option Addr) (m c : Nat) (news : List Value) (hx : a.eval x = .slice B m c) (hl : news.length = m * size) (hnews : Lies w B news) (h1 : ∀ u ∈ news, u.oneCell' = true) (hB : B = none → c = 0)
    (h63 : n + m ≤ maxLen) (hbytes : (n + m) * bytes ≤ 140737488355328) (hbase : base ≤ w.heap.size)
    (h : ∀ v' w', w'.ownsRow base e size v' (n + m) (xs ++ news) → w.grownBy w' v.ownBlock → (v' = .slice none 0 0 ↔ v = .slice none 0 0 ∧ m = 0) → K (a.put o.dst v') w') : if Region.wanted o (yielded ops a.tmps) = true then Oper.wp P o a w K Q else E := by
  rw [if_pos (by simp [Region.wanted, hgd])]
  exact wp_app w s x t ho base e z size bytes ht hinfo hzs hsz v n xs hs hown B m c news hx hl hnews h1 hB h63 hbytes hbase h
/-- An append to a slice without room, of something: it goes into new memory. -/
theorem wp_app_new {o : Oper} {a : Act} {K : Act → World → Prop} {Q : Exit → Act → World → Prop} (s x : Operand) (t : TypeId)
    (ho : o.op = .call { callee := .builtin .append, args := #[s, x], argTypes := #[t, t] })
    (base : Nat) (e : TypeId) (z : Value) (size bytes : Nat) (ht : P.underlying t = some (.slice e))
    (hinfo : (P.info? e).map (fun i => (i.zero, i.size, i.bytes)) = some (some z, size, bytes)) (hzs : z.cells.size = size) (hsz : 0 < size)
    (A : Option Addr) (n k : Nat) (xs : List Value) (hs : a.eval s = .slice A n k) (hk : k = n) (hA : A = none → n = 0) (hxl : xs.length = n * size) (hxs : Lies w A xs)
    (B : Addr) (m c : Nat) (news : List Value) (hx : a.eval x = .slice (some B) m c) (hm : 0 < m) (hl : news.length = m * size) (hnews : Lies w (some B) news) (h1 : ∀ u ∈ news, u.oneCell' = true)
    (h63 : n + m ≤ maxLen) (hbytes : (n + m) * bytes ≤ 140737488355328) (hbase : base ≤ w.heap.size)
    (h : ∀ v' w', w'.ownsRow base e size v' (n + m) (xs ++ news) → w.grownBy w' none → v' ≠ .slice none 0 0 → K (a.put o.dst v') w') : o.wp P a w K Q := by
  obtain ⟨i, hi, hz, hsize, hby⟩ := info_parts hinfo
  subst hsize
  subst hby
  subst hk
  have hn' : ∀ j u, news[j]? = some u → w.cell? (B.add j) = some u := by
    intro j u hu
    obtain ⟨b, hb, hc⟩ := hnews j u hu
    cases hb
    exact hc
  have key : ∃ v' w', (Builtin.append_ #[t, t] o.type #[.slice A k k, .slice (some B) m c]).run P w = .ok v' w' ∧ w'.ownsRow base e i.size v' (k + m) (xs ++ news) ∧ w.grownBy w' none ∧ v' ≠ .slice none 0 0 := by
    cases A with
    | none =>
      obtain rfl := hA rfl
      have hx0 : xs = [] := List.eq_nil_of_length_eq_zero (by simpa using hxl)
      subst hx0
      obtain ⟨v', w', hr, h2, h3, h4⟩ := run_append_own w base t o.type e i z i.size i.bytes ht hi hz rfl rfl hzs hsz _ 0 [] (World.ownsRow_nil w base e i.size) B m c news hl hn'
        h1 h63 hbytes hbase
      exact ⟨v', w', hr, h2, h3, fun hv => by have := (h4.1 hv).2; omega⟩
    | some b =>
      have hx' : ∀ j u, xs[j]? = some u → w.cell? (b.add j) = some u := by
        intro j u hu
        obtain ⟨b', hb, hc⟩ := hxs j u hu
        cases hb
        exact hc
      have h63' := h63
      simp only [maxLen] at h63'
      have hr := run_append_grow (P := P) w t o.type e i z ht hi hz b k k xs hxl hx' B m c news hl hn' (by omega) (by omega) (growslice_fits (by omega) hbytes)
      have hge := grownCap_ge w (k + m) k e
      have hcm : grownCap w (k + m) k e ≤ maxLen := grownCap_le_maxLen w (k + m) k e h63
      refine ⟨_, _, hr, ⟨by rw [List.length_append, hxl, hl, Nat.add_mul], .inr ⟨w.heap.size, _, _, rfl, hbase, heap_alloc_new w.drew _, hge, hcm, ?_, ?_⟩⟩, ⟨rfl, rfl, rfl, by simp, fun j hj _ => heap_alloc_old w.drew _ hj⟩, by simp⟩
      · simp only [Array.size_append, List.size_toArray, size_zeroCells, hzs, hxl, hl, ← Nat.add_mul]
        congr 1
        omega
      · simp only [Array.toList_append, List.append_assoc]
        rw [← List.append_assoc]
        have : (k + m) * i.size = (xs ++ news).length := by rw [List.length_append, hxl, hl, Nat.add_mul]
        rw [this]
        exact List.take_left
  obtain ⟨v', w', hr, h2, h3, h4⟩ := key
  unfold Oper.wp execOp
  simp only [ho, resolve, invoke, builtin, Sem.run_bind, Sem.run_pure, Result.andThen_ok, List.map_toArray, List.map_cons, List.map_nil, hs, hx, hr]
  exact h v' w' h2 h3 h4
theorem wpList_app_new {ops : Array Oper} {rest : List Oper} {o : Oper} {a : Act} {Q : Exit → Act → World → Prop} (hgd : o.guard = none) (s x : Operand) (t : TypeId)
    (ho : o.op = .call { callee := .builtin .append, args := #[s, x], argTypes := #[t, t] })
    (base : Nat) (e : TypeId) (z : Value) (size bytes : Nat) (ht : P.underlying t = some (.slice e))
    (hinfo : (P.info? e).map (fun i => (i.zero, i.size, i.bytes)) = some (some z, size, bytes)) (hzs : z.cells.size = size) (hsz : 0 < size)
    (A : Option Addr) (n k : Nat) (xs : List Value) (hs : a.eval s = .slice A n k) (hk : k = n) (hA : A = none → n = 0) (hxl : xs.length = n * size) (hxs : Lies w A xs)
    (B : Addr) (m c : Nat) (news : List Value) (hx : a.eval x = .slice (some B) m c) (hm : 0 < m) (hl : news.length = m * size) (hnews : Lies w (some B) news) (h1 : ∀ u ∈ news, u.oneCell' = true)
    (h63 : n + m ≤ maxLen) (hbytes : (n + m) * bytes ≤ 140737488355328) (hbase : base ≤ w.heap.size)
    (h : ∀ v' w', w'.ownsRow base e size v' (n + m) (xs ++ news) → w.grownBy w' none → v' ≠ .slice none 0 0 → wpList P ops Q rest (a.put o.dst v') w') : wpList P ops Q (o :: rest) a w :=
  wpList_plain hgd fun K hK => wp_app_new w s x t ho base e z size bytes ht hinfo hzs hsz A n k xs hs hk hA hxl hxs B m c news hx hm hl hnews h1 h63 hbytes hbase fun v' w' h2 h3 h4 => hK _ _ (h v' w' h2 h3 h4)
theorem step_app_new {ops : Array Oper} {o : Oper} {a : Act} {K : Act → World → Prop} {Q : Exit → Act → World → Prop} {E : Prop} (hgd : o.guard = none) (s x : Operand) (t : TypeId)
    (ho : o.op = .call { callee := .builtin .append, args := #[s, x], argTypes := #[t, t] })
    (base : Nat) (e : TypeId) (z : Value) (size bytes : Nat) (ht : P.underlying t = some (.slice e))
    (hinfo : (P.info? e).map (fun i => (i.zero, i.size, i.bytes)) = some (some z, size, bytes)) (hzs : z.cells.size = size) (hsz : 0 < size)
    (A : Option Addr) (n k : Nat) (xs : List Value) (hs : a.eval s = .slice A n k) (hk : k = n) (hA : A = none → n = 0) (hxl : xs.length = n * size) (hxs : Lies w A xs)
    (B : Addr) (m c : Nat) (news : List Value) (hx : a.eval x = .slice (some B) m c) (hm : 0 < m) (hl : news.length = m * size) (hnews : Lies w (some B) news) (h1 : ∀ u ∈ news, u.oneCell' = true)
    (h63 : n + m ≤ maxLen) (hbytes : (n + m) * bytes ≤ 140737488355328) (hbase : base ≤ w.heap.size)
    (h : ∀ v' w', w'.ownsRow base e size v' (n + m) (xs ++ news) → w.grownBy w' none → v' ≠ .slice none 0 0 → K (a.put o.dst v') w') : if Region.wanted o (yielded ops a.tmps) = true then Oper.wp P o a w K Q else E := by
  rw [if_pos (by simp [Region.wanted, hgd])]
  exact wp_app_new w s x t ho base e z size bytes ht hinfo hzs hsz A n k xs hs hk hA hxl hxs B m c news hx hm hl hnews h1 h63 hbytes hbase h
/-- make with a length and a capacity: zeros, at the head of a new row. -/
theorem wpList_mk {ops : Array Oper} {rest : List Oper} {o : Oper} {a : Act} {Q : Exit → Act → World → Prop}
    (hg : o.guard = none) (l c : Operand) (t : TypeId) (hop : o.op = Op.makeSlice t l c)
    (base : Nat) (e : TypeId) (z : Value) (bytes : Nat) (ht : P.underlying t = some (.slice e))
    (hinfo : (P.info? e).map (fun i => (i.zero, i.size, i.bytes)) = some (some z, 1, bytes)) (hzs : z.cells = #[z])
    (kl kc : IntKind) (L C : Int) (n k : Nat) (hl : a.eval l = .int kl L) (hc : a.eval c = .int kc C) (hL : L = (n : Int)) (hC : C = (k : Int)) (hnk : n ≤ k) (b2 : bytes * k ≤ 281474976710656) (b3 : k ≤ maxLen) (b4 : base ≤ w.heap.size)
    (hK : ∀ w', w'.ownsRow base e 1 (.slice (some ⟨w.heap.size, 0, none⟩) n k) n (List.replicate n z) → w.grownBy w' none → wpList P ops Q rest (a.put o.dst (.slice (some ⟨w.heap.size, 0, none⟩) n k)) w') :
    wpList P ops Q (o :: rest) a w := by
  refine wpList_plain hg fun K hK' => ?_
  obtain ⟨i, hi, hz, hsize, hby⟩ := info_parts hinfo
  subst hL
  subst hC
  have b3' := b3
  simp only [maxLen] at b3'
  have hr := run_make (P := P) w t e i z ht hi hz kl kc n k (by omega) (by omega) (by rw [hby]; omega) (by omega)
  simp only [Int.toNat_natCast, hsize, Nat.mul_one, hzs] at hr
  unfold Oper.wp
  simp [execOp, hop, hl, hc, hr, Result.andThen]
  refine hK' _ _ (hK _ ⟨by simp, .inr ⟨w.heap.size, k, _, rfl, b4, heap_alloc_new w _, hnk, b3, by simp [size_madeCells], ?_⟩⟩ (World.grownBy_alloc w _ none))
  rw [toList_madeCells_one, Nat.mul_one, List.take_replicate, Nat.min_eq_left hnk]
/-- A bound of a slice expression: none, or this number. -/
def BndIs : Option Value → Nat → Nat → Prop
  | none, d, v => v = d
  | some x, _, v => ∃ k, x = .int k (v : Int)
/-- Where a part of a slice begins. -/
def CutAt (A A' : Option Addr) (l m size : Nat) : Prop := A' = (if m = l then A else A.map (·.add (l * size)))
theorem CutAt.cap0 {A A' : Option Addr} {l m size : Nat} (h : CutAt A A' l m size) (hA : A = none → m = 0) : A' = none → m - l = 0 := by
  intro e
  unfold CutAt at h
  split at h
  · omega
  · subst e
    cases A with
    | none => have := hA rfl; omega
    | some a => simp at h
/-- A part of a slice: at some address. -/
theorem wpList_cut {ops : Array Oper} {rest : List Oper} {o : Oper} {a : Act} {Q : Exit → Act → World → Prop} (hgd : o.guard = none) (x : Operand) (lo hi mx : Option Operand) (t : TypeId)
    (ho : o.op = .slice t x lo hi mx) (e : TypeId) (z : Value) (size bytes : Nat) (ht : P.underlying t = some (.slice e))
    (hinfo : (P.info? e).map (fun i => (i.zero, i.size, i.bytes)) = some (some z, size, bytes))
    (A : Option Addr) (n c : Nat) (hx : a.eval x = .slice A n c) (l h m : Nat) (hl : BndIs (lo.map a.eval) 0 l) (hh : BndIs (hi.map a.eval) n h) (hm : BndIs (mx.map a.eval) c m) (hmh : mx.isSome = true → hi.isSome = true)
    (h1 : l ≤ h) (h2 : h ≤ m) (h3 : m ≤ c)
    (hK : ∀ A', CutAt A A' l m size → wpList P ops Q rest (a.put o.dst (.slice A' (h - l) (m - l))) w) : wpList P ops Q (o :: rest) a w := by
  refine wpList_plain hgd fun K hK' => ?_
  obtain ⟨i, hi', hz, hsize, hby⟩ := info_parts hinfo
  have hb : (Instr.sliceBounds true n c (lo.map a.eval) (hi.map a.eval) (mx.map a.eval)).run P w = .ok (l, h, m) w := by
    unfold Instr.sliceBounds
    cases mx with
    | none =>
      simp only [Option.map_none, BndIs] at hm
      subst hm
      cases hi with
      | none =>
        simp only [Option.map_none, BndIs] at hh
        subst hh
        cases lo with
        | none => simp only [Option.map_none, BndIs] at hl; subst hl; simp
        | some y =>
          simp only [Option.map_some, BndIs] at hl
          obtain ⟨k, hk⟩ := hl
          simp [hk, run_sliceBound, h1]
      | some y2 =>
        simp only [Option.map_some, BndIs] at hh
        obtain ⟨k2, hk2⟩ := hh
        have e2 : (Instr.sliceBound (.int k2 (h : Int)) m .sliceAcap).run P w = .ok h w := by rw [run_sliceBound w k2 h m _ (by omega) (by omega)]; simp
        cases lo with
        | none => simp only [Option.map_none, BndIs] at hl; subst hl; simp [hk2, e2]
        | some y =>
          simp only [Option.map_some, BndIs] at hl
          obtain ⟨k, hk⟩ := hl
          have e1 : (Instr.sliceBound (.int k (l : Int)) h .sliceB).run P w = .ok l w := by rw [run_sliceBound w k l h _ (by omega) (by omega)]; simp
          simp [hk, hk2, e1, e2]
    | some y3 =>
      cases hi with
      | none => simp at hmh
      | some y2 =>
        simp only [Option.map_some, BndIs] at hh hm
        obtain ⟨k2, hk2⟩ := hh
        obtain ⟨k3, hk3⟩ := hm
        have e3 : (Instr.sliceBound (.int k3 (m : Int)) c .slice3Acap).run P w = .ok m w := by rw [run_sliceBound w k3 m c _ (by omega) (by omega)]; simp
        have e2 : (Instr.sliceBound (.int k2 (h : Int)) m .slice3B).run P w = .ok h w := by rw [run_sliceBound w k2 h m _ (by omega) (by omega)]; simp
        cases lo with
        | none => simp only [Option.map_none, BndIs] at hl; subst hl; simp [hk2, hk3, e2, e3]
        | some y =>
          simp only [Option.map_some, BndIs] at hl
          obtain ⟨k, hk⟩ := hl
          have e1 : (Instr.sliceBound (.int k (l : Int)) h .slice3C).run P w = .ok l w := by rw [run_sliceBound w k l h _ (by omega) (by omega)]; simp
          simp [hk, hk2, hk3, e1, e2, e3]
  have he : P.elem t = e := by simp [Program.elem, ht]
  have hu : P.underlying t = some (.slice (P.elem t)) := by rw [he]; exact ht
  have hs : (sizeOf e).run P w = .ok size w := by simp [sizeOf, typeInfo, hi', hsize]
  have hr : (Instr.sliceAt t (.slice A n c) (lo.map a.eval) (hi.map a.eval) (mx.map a.eval)).run P w = .ok (.slice (if m = l then A else A.map (·.add (l * size))) (h - l) (m - l)) w := by
    rw [run_sliceAt_slice (P := P) w t _ _ _ _ hu, run_slice_any (P := P) w t A n c hu, hb, Result.andThen_ok, he, hs, Result.andThen_ok]
    rfl
  unfold Oper.wp
  simp only [execOp, ho, hx, Sem.run_bind, hr, Result.andThen_ok]
  exact hK' _ _ (hK _ rfl)
theorem Lies.cut {w : World} {A A' : Option Addr} {vs : List Value} {l h m size : Nat} (hv : Lies w A vs) (hA : CutAt A A' l m size) (h2 : h ≤ m) : Lies w A' ((vs.drop (l * size)).take ((h - l) * size)) := by
  intro k v hk
  unfold CutAt at hA
  by_cases hml : m = l
  · have : (h - l) * size = 0 := by rw [show h - l = 0 by omega, Nat.zero_mul]
    rw [this] at hk
    simp at hk
  · rw [if_neg hml] at hA
    rw [List.getElem?_take] at hk
    split at hk
    · rw [List.getElem?_drop] at hk
      obtain ⟨a, rfl, hc⟩ := hv _ v hk
      exact ⟨_, hA, by rw [Addr.add_add]; exact hc⟩
    · cases hk
theorem RB.cut {w : World} {A A' : Option Addr} {bs : List UInt8} {l m h : Nat} (hv : RB w A bs) (hA : CutAt A A' l m 1) (h2 : h ≤ m) : RB w A' ((bs.drop l).take (h - l)) := by
  have := Lies.cut hv hA h2
  rw [Nat.mul_one, Nat.mul_one, ← List.map_drop, ← List.map_take] at this
  exact this
theorem RB.from {w : World} {A A' : Option Addr} {bs : List UInt8} {l m : Nat} (hv : RB w A bs) (hA : CutAt A A' l m 1) (h2 : bs.length ≤ m) : RB w A' (bs.drop l) := by
  have := RB.cut hv hA h2
  rwa [List.take_of_length_le (by simp)] at this
/-- Bytes as a text. -/
def str (bs : List UInt8) : ByteArray := ⟨bs.toArray⟩
theorem str_toList (bs : List UInt8) : (str bs).data.toList = bs := rfl
theorem str_toList' (bs : List UInt8) : (str bs).toList = bs := by rw [ByteArray.toList_eq]; rfl
theorem str_size (bs : List UInt8) : (str bs).size = bs.length := by simp [str, ByteArray.size]
/-- A text out of bytes that lie. -/
theorem RB.str {P : Program} {w : World} {src dst e : TypeId} (hs : P.underlying src = some (.slice e)) (he : P.underlying e = some (.int .u8)) (hd : P.underlying dst = some .string)
    {A : Option Addr} {bs : List UInt8} (hr : RB w A bs) (n c : Nat) (hn : n = bs.length) : (convert src dst (.slice A n c)).run P w = .ok (.string (str bs)) w := by
  subst hn
  cases A with
  | none =>
    have h0 : bs = [] := by
      cases bs with
      | nil => rfl
      | cons b bs => obtain ⟨a, ha, _⟩ := hr.at (k := 0) (by simp); cases ha
    subst h0
    exact run_convert_bytes_nil w src e hs he _ c dst hd
  | some a =>
    have hl : (loadCells a bs.length).run P w = .ok (bs.map vb).toArray w := by
      have := run_loadCells_list (P := P) w a (bs.map vb) (fun j v hj => by obtain ⟨b, hb, hc⟩ := hr j v hj; cases hb; exact hc)
      simpa using this
    have he2 : bs.map vb = (bs.map fun b => (b.toNat : Int)).map (Value.int .u8) := by simp [vb]
    rw [he2] at hl
    rw [run_convert_bytes_string w src dst e _ _ c hs he hd, run_bytesToString w _ bs.length c _ hl, foldl_push_bytes]
    simp only [List.map_map]
    rw [show (fun n : Int => UInt8.ofNat n.toNat) ∘ (fun b : UInt8 => (b.toNat : Int)) = id from by funext b; simp]
    simp [Go.Proofs.Ytjfpanamkkdebaa.str, ByteArray.empty, ByteArray.emptyWithCapacity]
    rfl
/-- What lies in a new block. -/
theorem Lies.new (w : World) (e : TypeId) (vs : List Value) (m : Nat × Nat) : Lies (w.alloc (.cells vs.toArray e m)) (some ⟨w.heap.size, 0, none⟩) vs := by
  intro k v hk
  refine ⟨_, rfl, ?_⟩
  rw [Addr.add_lit, World.cell?_alloc_mark]
  simpa using hk
theorem RB.new (w : World) (e : TypeId) (bs : List UInt8) (m : Nat × Nat) : RB (w.alloc (.cells (bs.map vb).toArray e m)) (some ⟨w.heap.size, 0, none⟩) bs := Lies.new w e _ m
theorem Lies.drew {w : World} {A : Option Addr} {vs : List Value} (h : Lies w A vs) : Lies w.drew A vs := h
theorem RB.drew {w : World} {A : Option Addr} {bs : List UInt8} (h : RB w A bs) : RB w.drew A bs := h
/-- A slice that holds something leads somewhere. -/
theorem Lies.some {w : World} {A : Option Addr} {vs : List Value} (h : Lies w A vs) (hA : A = none) : vs = [] := by
  cases vs with
  | nil => rfl
  | cons v vs => obtain ⟨a, ha, _⟩ := h 0 v rfl; rw [hA] at ha; cases ha
theorem RB.none {w : World} {A : Option Addr} {bs : List UInt8} (h : RB w A bs) (hA : A = none) : bs.length = 0 := by
  have := Lies.some h hA
  simpa using this
theorem own_pos {w : World} {base : Nat} {e : TypeId} {size : Nat} {v : Value} {n : Nat} {xs : List Value} (h : w.ownsRow base e size v n xs) (hn : 0 < n) : ∃ g c, v = .slice (some ⟨g, 0, none⟩) n c ∧ base ≤ g ∧ n ≤ c := by
  rcases h.2 with ⟨rfl, rfl⟩ | ⟨g, cap, cur, rfl, hb, _, h, _⟩
  · omega
  · exact ⟨_, _, rfl, hb, h⟩
end
end Go.Proofs.Ytjfpanamkkdebaa
namespace Go.Proofs.Ytjfpanamkkdebaa
open Go.RowKit
set_option linter.unusedVariables false
/-- A page: bytes, and noughts behind them. -/
def pad (s : List UInt8) : List UInt8 := s ++ List.replicate (128 - s.length) 0
theorem pad_length {s : List UInt8} (h : s.length ≤ 128) : (pad s).length = 128 := by simp [pad]; omega
theorem pad_full {s : List UInt8} (h : s.length = 128) : pad s = s := by simp [pad, h]
theorem pad_pad {s : List UInt8} (h : s.length ≤ 128) : pad (pad s) = pad s := pad_full (pad_length h)
/-- A device: is it bound, how many acts are left, has it stopped; what is there for good; what was written since. -/
structure Dsk where
  bound : Bool
  left : Nat
  dead : Bool
  kept : List (List UInt8)
  loose : Nat → Option (List UInt8)
/-- One act: it stops where none is left. -/
def Dsk.stops (d : Dsk) : Bool := d.dead || (d.bound && d.left == 0)
def Dsk.acted (d : Dsk) : Dsk := if d.stops then { d with dead := true } else if d.bound then { d with left := d.left - 1 } else d
def Dsk.actE (d : Dsk) : Nat := if d.stops then 9 else 0
/-- What a page has now. -/
def Dsk.now (d : Dsk) (i : Nat) : List UInt8 := match d.loose i with | some s => s | none => d.kept.getD i []
/-- Why there is no such page; 0: there is. -/
def Dsk.askE (d : Dsk) (i : Int) : Nat := if 0 ≤ i ∧ i < d.kept.length then 0 else 1
def Dsk.writeE (d : Dsk) (i : Int) (b : List UInt8) : Nat := if d.askE i ≠ 0 then 1 else if 128 < b.length then 1 else d.actE
def Dsk.wrote (d : Dsk) (i : Int) (b : List UInt8) : Dsk :=
  if d.askE i ≠ 0 then d else if 128 < b.length then d else if d.stops then d.acted else { d.acted with loose := fun j => if j = i.toNat then some (pad b) else d.loose j }
def Dsk.synced (d : Dsk) : Dsk :=
  if d.stops then d.acted else { d.acted with kept := (List.range d.kept.length).map d.now, loose := fun _ => none }
/-- What a crash makes of a page. -/
def Dsk.after (d : Dsk) (keep : List Int) (torn : Int) (cut : Nat) (i : Nat) : List UInt8 :=
  match d.loose i with
  | none => d.kept.getD i []
  | some s => if (i : Int) = torn then s.take cut ++ (pad (d.kept.getD i [])).drop cut else if (i : Int) ∈ keep then s else d.kept.getD i []
def cutOf (cut : Int) : Nat := (min (max cut 0) 128).toNat
def Dsk.crashed (d : Dsk) (keep : List Int) (torn cut : Int) : Dsk :=
  ⟨false, 0, false, (List.range d.kept.length).map (d.after keep torn (cutOf cut)), fun _ => none⟩
def Dsk.fuseE (d : Dsk) : Nat := if d.dead then 9 else 0
def Dsk.fused (d : Dsk) (n : Int) : Dsk := if d.dead then d else { d with bound := decide (0 ≤ n), left := n.toNat }
/-- The pages that were written since, rising. -/
def Dsk.looseL (d : Dsk) : List Int := ((List.range d.kept.length).filter fun i => (d.loose i).isSome).map fun i : Nat => (i : Int)
/-- What holds of all devices that calls make. -/
structure Dsk.Ok (d : Dsk) : Prop where
  pos : 0 < d.kept.length
  most : d.kept.length ≤ 4096
  kept : ∀ s ∈ d.kept, s.length ≤ 128
  loose : ∀ i s, d.loose i = some s → i < d.kept.length ∧ s.length = 128
  left : d.left < 9223372036854775808
theorem Dsk.acted_kept (d : Dsk) : d.acted.kept = d.kept := by unfold Dsk.acted; split; rfl; split <;> rfl
theorem Dsk.acted_loose (d : Dsk) : d.acted.loose = d.loose := by unfold Dsk.acted; split; rfl; split <;> rfl
theorem Dsk.acted_left (d : Dsk) : d.acted.left ≤ d.left := by unfold Dsk.acted; split; exact Nat.le_refl _; split; exact Nat.sub_le _ _; exact Nat.le_refl _
theorem Dsk.Ok.acted {d : Dsk} (h : d.Ok) : d.acted.Ok :=
  ⟨by rw [d.acted_kept]; exact h.pos, by rw [d.acted_kept]; exact h.most, by rw [d.acted_kept]; exact h.kept, by rw [d.acted_kept, d.acted_loose]; exact h.loose, Nat.lt_of_le_of_lt d.acted_left h.left⟩
theorem Dsk.Ok.keptAt {d : Dsk} (h : d.Ok) (i : Nat) : (d.kept.getD i []).length ≤ 128 := by
  rw [List.getD_eq_getElem?_getD]
  cases e : d.kept[i]? with
  | none => simp
  | some s => exact h.kept s (List.mem_of_getElem? e)
theorem Dsk.Ok.now {d : Dsk} (h : d.Ok) (i : Nat) : (d.now i).length ≤ 128 := by
  unfold Dsk.now
  split
  · rename_i s e; exact Nat.le_of_eq (h.loose i s e).2
  · exact h.keptAt i
theorem Dsk.Ok.after {d : Dsk} (h : d.Ok) (keep : List Int) (torn : Int) {cut : Nat} (hc : cut ≤ 128) (i : Nat) : (d.after keep torn cut i).length ≤ 128 := by
  unfold Dsk.after
  split
  · exact h.keptAt i
  · rename_i s e
    have := (h.loose i s e).2
    split
    · rw [List.length_append, List.length_take, List.length_drop, pad_length (h.keptAt i)]; omega
    · split
      · omega
      · exact h.keptAt i
theorem cutOf_le (cut : Int) : cutOf cut ≤ 128 := by unfold cutOf; omega
theorem Dsk.Ok.wrote {d : Dsk} (h : d.Ok) (i : Int) (b : List UInt8) : (d.wrote i b).Ok := by
  unfold Dsk.wrote
  split
  · exact h
  · rename_i ha
    have hi : 0 ≤ i ∧ i < d.kept.length := by
      unfold Dsk.askE at ha
      split at ha
      · assumption
      · exact absurd (by decide) ha
    split
    · exact h
    · rename_i hb
      split
      · exact h.acted
      · have k := h.acted
        refine ⟨k.pos, k.most, k.kept, fun j s hj => ?_, k.left⟩
        show j < d.acted.kept.length ∧ _
        rw [d.acted_kept]
        simp only at hj
        split at hj
        · rename_i e
          injection hj with hj
          exact ⟨by omega, by rw [← hj]; exact pad_length (by omega)⟩
        · exact h.loose j s hj
theorem Dsk.Ok.synced {d : Dsk} (h : d.Ok) : d.synced.Ok := by
  unfold Dsk.synced
  split
  · exact h.acted
  · have k := h.acted
    refine ⟨by simpa using h.pos, by simpa using h.most, fun s hs => ?_, fun j s hj => (by cases hj), k.left⟩
    obtain ⟨i, _, rfl⟩ := List.mem_map.1 hs
    exact h.now i
theorem Dsk.Ok.crashed {d : Dsk} (h : d.Ok) (keep : List Int) (torn cut : Int) : (d.crashed keep torn cut).Ok := by
  refine ⟨by simpa [Dsk.crashed] using h.pos, by simpa [Dsk.crashed] using h.most, fun s hs => ?_, fun j s hj => (by cases hj), by show (0 : Nat) < _; decide⟩
  obtain ⟨i, _, rfl⟩ := List.mem_map.1 hs
  exact h.after keep torn (cutOf_le cut) i
theorem Dsk.Ok.fused {d : Dsk} (h : d.Ok) {n : Int} (hn : n ≤ 9223372036854775807) : (d.fused n).Ok := by
  unfold Dsk.fused
  split
  · exact h
  · exact ⟨h.pos, h.most, h.kept, h.loose, by show n.toNat < _; omega⟩
end Go.Proofs.Ytjfpanamkkdebaa
namespace Go.Proofs.Ytjfpanamkkdebaa
open Go.RowKit
set_option linter.unusedVariables false
section
variable {P : Program} {w : World}
theorem one_news {ad : Addr} {u : Value} (h : w.cell? ad = some u) : ∀ j v, [u][j]? = some v → w.cell? (ad.add j) = some v := by
  intro j v hj
  match j, hj with
  | 0, hj => simp at hj; subst hj; rw [Addr.add_zero']; exact h
theorem step_one {ops : Array Oper} {o : Oper} {a : Act} {K : Act → World → Prop} {Q : Exit → Act → World → Prop} {E : Prop} (hgd : o.guard = none) (s x : Operand) (t : TypeId)
    (ho : o.op = .call { callee := .builtin .append, args := #[s, x], argTypes := #[t, t] })
    (base : Nat) (e : TypeId) (z : Value) (bytes : Nat) (ht : P.underlying t = some (.slice e))
    (hinfo : (P.info? e).map (fun i => (i.zero, i.size, i.bytes)) = some (some z, 1, bytes)) (hzs : z.cells.size = 1)
    (v : Value) (n : Nat) (xs : List Value) (hs : a.eval s = v) (hown : w.ownsRow base e 1 v n xs)
    (ad : Addr) (u : Value) (hx : a.eval x = .slice (some ad) 1 1) (hu : w.cell? ad = some u) (h1 : u.oneCell' = true)
    (h63 : n + 1 ≤ maxLen) (hbytes : (n + 1) * bytes ≤ 140737488355328) (hbase : base ≤ w.heap.size)
    (h : ∀ g cap w', w'.ownsRow base e 1 (.slice (some ⟨g, 0, none⟩) (n + 1) cap) (n + 1) (xs ++ [u]) → w.grownBy w' v.ownBlock → (v.ownBlock = some g ∨ g = w.heap.size) → g < w'.heap.size → K (a.put o.dst (.slice (some ⟨g, 0, none⟩) (n + 1) cap)) w') :
    if Region.wanted o (yielded ops a.tmps) = true then Oper.wp P o a w K Q else E := by
  obtain ⟨i, hi, hz, hsize, hby⟩ := info_parts hinfo
  exact step_append_lies w hgd s x t ho base e i z 1 bytes ht hi hz hsize hby hzs (by decide) v n xs hs hown ad 1 1 [u] hx rfl (one_news hu) (by intro q hq; cases List.mem_singleton.1 hq; exact h1) (by decide) h63 hbytes hbase _ rfl h
theorem wpList_one {ops : Array Oper} {rest : List Oper} {o : Oper} {a : Act} {Q : Exit → Act → World → Prop} (hgd : o.guard = none) (s x : Operand) (t : TypeId)
    (ho : o.op = .call { callee := .builtin .append, args := #[s, x], argTypes := #[t, t] })
    (base : Nat) (e : TypeId) (z : Value) (bytes : Nat) (ht : P.underlying t = some (.slice e))
    (hinfo : (P.info? e).map (fun i => (i.zero, i.size, i.bytes)) = some (some z, 1, bytes)) (hzs : z.cells.size = 1)
    (v : Value) (n : Nat) (xs : List Value) (hs : a.eval s = v) (hown : w.ownsRow base e 1 v n xs)
    (ad : Addr) (u : Value) (hx : a.eval x = .slice (some ad) 1 1) (hu : w.cell? ad = some u) (h1 : u.oneCell' = true)
    (h63 : n + 1 ≤ maxLen) (hbytes : (n + 1) * bytes ≤ 140737488355328) (hbase : base ≤ w.heap.size)
    (h : ∀ g cap w', w'.ownsRow base e 1 (.slice (some ⟨g, 0, none⟩) (n + 1) cap) (n + 1) (xs ++ [u]) → w.grownBy w' v.ownBlock → (v.ownBlock = some g ∨ g = w.heap.size) → g < w'.heap.size → wpList P ops Q rest (a.put o.dst (.slice (some ⟨g, 0, none⟩) (n + 1) cap)) w') : wpList P ops Q (o :: rest) a w := by
  obtain ⟨i, hi, hz, hsize, hby⟩ := info_parts hinfo
  exact wpList_append_lies w hgd s x t ho base e i z 1 bytes ht hi hz hsize hby hzs (by decide) v n xs hs hown ad 1 1 [u] hx rfl (one_news hu) (by intro q hq; cases List.mem_singleton.1 hq; exact h1) (by decide) h63 hbytes hbase _ rfl h
theorem blk_alloc {g : Nat} {x o : Obj} (h : w.heap[g]? = some x) : (w.alloc o).heap[g]? = some x := by
  have hl : g < w.heap.size := by
    rcases Nat.lt_or_ge g w.heap.size with hlt | hge
    · exact hlt
    · rw [Array.getElem?_eq_none hge] at h; cases h
  rw [heap_alloc_old w o hl]; exact h
theorem blk_cell {g j : Nat} {cs : Array Value} {t : TypeId} {f : Nat × Nat} (h : w.heap[g]? = some (.cells cs t f)) : w.cell? ⟨g, j, none⟩ = cs[j]? := by simp [World.cell?, h]
theorem blk_free {g j : Nat} {cs : Array Value} {t : TypeId} (h : w.heap[g]? = some (.cells cs t (0, 0))) : w.frozen? ⟨g, j, none⟩ = false := by simp [World.frozen?, h]
theorem blk_lt {g : Nat} {x : Obj} (h : w.heap[g]? = some x) : g < w.heap.size := by
  rcases Nat.lt_or_ge g w.heap.size with hlt | hge
  · exact hlt
  · rw [Array.getElem?_eq_none hge] at h; cases h
theorem tmp_here (w : World) (u : Value) (e : TypeId) : (w.alloc (.cells #[u] e)).cell? ⟨w.heap.size, 0, none⟩ = some u := by
  rw [World.cell?_alloc_mark]; rfl
theorem tmp_under (w : World) (u : Value) (e : TypeId) (o : Obj) : ((w.alloc (.cells #[u] e)).alloc o).cell? ⟨w.heap.size, 0, none⟩ = some u := by
  have h := tmp_here w u e
  rw [World.cell?_alloc_lt _ _ _ (World.block_lt_of_cell? _ _ h)]; exact h
theorem tmp_next (w : World) (o : Obj) (u : Value) (e : TypeId) : ((w.alloc o).alloc (.cells #[u] e)).cell? ⟨w.heap.size + 1, 0, none⟩ = some u := by
  have h := tmp_here (w.alloc o) u e
  have e2 : (w.alloc o).heap.size = w.heap.size + 1 := by simp
  rwa [e2] at h
theorem size_alloc_le (w : World) (o : Obj) : w.heap.size ≤ (w.alloc o).heap.size := by simp
theorem size_alloc_le2 (w : World) (o o2 : Obj) : w.heap.size ≤ ((w.alloc o).alloc o2).heap.size := by simp; omega
end
theorem OS_below {w w' : World} {base : Nat} {e : TypeId} {size n : Nat} {v : Value} {xs : List Value} (h : w.ownsRow base e size v n xs) (hb : Below w.heap.size w w') : w'.ownsRow base e size v n xs :=
  World.ownsRow.kept (row := none) h ⟨hb.os, hb.tape, hb.output, hb.size, fun k hk _ => hb.block k hk⟩ (by
    cases e : v.ownBlock with
    | none => exact .inl rfl
    | some k => exact .inr (fun e2 => by cases e2))
end Go.Proofs.Ytjfpanamkkdebaa
namespace Go.Proofs.Ytjfpanamkkdebaa
open Go.RowKit Go.Maps Go.ChangeMaps
set_option linter.unusedVariables false
set_option maxRecDepth 100000
set_option linter.unusedSimpArgs false
theorem nodup_below : ∀ (N : Nat) (l : List Nat), l.Pairwise (fun a b => a ≠ b) → (∀ x ∈ l, x < N) → l.length ≤ N
  | 0, l, _, h => by
    cases l with
    | nil => simp
    | cons x l => exact absurd (h x List.mem_cons_self) (Nat.not_lt_zero _)
  | N + 1, l, hp, h => by
    have hn : l.Nodup := hp
    have h1 : (l.erase N).length ≤ N := by
      refine nodup_below N _ (hn.erase N) fun x hx => ?_
      have h2 := (hn.mem_erase_iff).1 hx
      have h3 := h x h2.2
      have : x ≠ N := h2.1
      omega
    have h2 : l.length ≤ (l.erase N).length + 1 := by
      rw [List.length_erase]
      split <;> omega
    omega
theorem law : Keyed Try.prog 3 := int_keyed Try.underlying3
theorem zeroS (w : World) : (zeroValue 9).run Try.prog w = .ok (.string ByteArray.empty) w := by kernel_rfl
theorem key_of (i : Nat) (h : i < 9223372036854775808) : keyOf Try.prog 3 (.int .i64 i) = some (.int .i64 i) := by
  refine keyOf_int_mk Try.underlying3 ?_
  simp [Lit.wf, IntKind.min, IntKind.max, IntKind.bits, IntKind.signed]
  omega
theorem isKey_of (i : Nat) (h : i < 9223372036854775808) : WideAt.IsKeyLit (.int .i64 i) := law.key (key_of i h)
/-- What is read of a map: numbers below N, each with a text or with none. -/
structure Reads (D : DataW Unit) (N : Nat) (L : Nat → Option (List UInt8)) : Prop where
  keys : ∀ es, D = .map es → ∀ p ∈ es, ∃ i : Nat, i < N ∧ p.1 = .int .i64 i
  has : ∀ i : Nat, i < N → Maps.has D (.int .i64 i) = (L i).isSome
  val : ∀ (i : Nat) (s : List UInt8), i < N → L i = some s → ∀ z, D.atKey (.int .i64 i) z = .lit (.string s)
theorem lit_wf (i : Nat) (h : i < 9223372036854775808) : (Lit.int .i64 i).wf = true := by
  simp [Lit.wf, IntKind.min, IntKind.max, IntKind.bits, IntKind.signed]
  omega
theorem Reads.size {D : DataW Unit} {N : Nat} {L : Nat → Option (List UInt8)} (h : Reads D N L) (ht : Tidy D) : Maps.size D ≤ N := by
  obtain ⟨es, rfl, hp⟩ := ht
  have hk := h.keys es rfl
  let f : Lit × DataW Unit → Nat := fun p => match p.1 with | .int _ z => z.toNat | _ => 0
  have h1 : (es.map f).length ≤ N := by
    refine nodup_below N _ ?_ ?_
    · rw [List.pairwise_map]
      refine hp.imp_of_mem fun {a b} ha hb hne e => hne ?_
      obtain ⟨i, hi, ei⟩ := hk a ha
      obtain ⟨j, hj, ej⟩ := hk b hb
      have : i = j := by
        have e' : f a = f b := e
        simp only [f, ei, ej, Int.toNat_natCast] at e'
        exact e'
      rw [ei, ej, this]
    · intro x hx
      obtain ⟨p, hp, rfl⟩ := List.mem_map.1 hx
      obtain ⟨i, hi, ei⟩ := hk p hp
      simp only [f, ei, Int.toNat_natCast]
      exact hi
  rw [List.length_map] at h1
  exact h1
/-- Block b is a map that has these texts, at numbers below N. -/
def MapIs (w : World) (b N : Nat) (L : Nat → Option (List UInt8)) : Prop := ∃ D : DataW Unit, w.ownsMap Try.prog 3 (plainElem (H := Unit) Try.prog 9) b N D ∧ Reads D N L
theorem owns_tight {w : World} {b n : Nat} {D : DataW Unit} (h : w.ownsMap Try.prog 3 (plainElem (H := Unit) Try.prog 9) b n D) : w.ownsMap Try.prog 3 (plainElem (H := Unit) Try.prog 9) b (Maps.size D) D := by
  obtain ⟨es, clock, hb, F, _, rfl⟩ := h
  exact ⟨es, clock, hb, F, by rw [Maps.size_eq, length_sorted]; simp, rfl⟩
theorem MapIs.of {w : World} {b n N : Nat} {D : DataW Unit} {L : Nat → Option (List UInt8)} (h : w.ownsMap Try.prog 3 (plainElem (H := Unit) Try.prog 9) b n D) (hr : Reads D N L) : MapIs w b N L :=
  ⟨D, (owns_tight h).mono (hr.size (h.tidy law)), hr⟩
theorem reads_empty (N : Nat) : Reads (.map []) N (fun _ => none) where
  keys := fun es h p hp => by injection h with h; subst h; cases hp
  has := fun i _ => rfl
  val := fun i s _ h => by cases h
theorem mapIs_made (w : World) (N : Nat) : MapIs (w.alloc (.map #[] 0)) w.heap.size N (fun _ => none) :=
  .of (World.ownsMap_made w Try.prog 3 (plainElem (H := Unit) Try.prog 9)) (reads_empty N)
theorem MapIs.kept {w w' : World} {b N : Nat} {L : Nat → Option (List UInt8)} {row : Option Nat} (h : MapIs w b N L) (hg : w.grownBy w' row) (hne : some b ≠ row) : MapIs w' b N L := by
  obtain ⟨D, h1, h2⟩ := h
  exact ⟨D, h1.kept hg hne, h2⟩
theorem MapIs.below {w w' : World} {b N : Nat} {L : Nat → Option (List UInt8)} (h : MapIs w b N L) (hb : Below w.heap.size w w') : MapIs w' b N L :=
  h.kept (row := none) ⟨hb.os, hb.tape, hb.output, hb.size, fun k hk _ => hb.block k hk⟩ (by simp)
theorem MapIs.lt {w : World} {b N : Nat} {L : Nat → Option (List UInt8)} (h : MapIs w b N L) : b < w.heap.size := by
  obtain ⟨D, h1, _⟩ := h
  exact h1.lt
theorem MapIs.heap {w w' : World} {b N : Nat} {L : Nat → Option (List UInt8)} (h : MapIs w b N L) (e : w'.heap = w.heap) : MapIs w' b N L := by
  obtain ⟨D, ⟨es, clock, hb, r⟩, h2⟩ := h
  exact ⟨D, ⟨es, clock, by rw [e]; exact hb, r⟩, h2⟩
theorem reads_put {D : DataW Unit} {N : Nat} {L : Nat → Option (List UInt8)} (h : Reads D N L) (hm : IsMap D) (hN : N ≤ 9223372036854775807) (i : Nat) (hi : i < N) (s : List UInt8) :
    Reads (D.put (.int .i64 i) (.lit (.string s))) N (fun j => if j = i then some s else L j) := by
  have hik := isKey_of i (by omega)
  refine ⟨fun es he p hp => ?_, fun j hj => ?_, fun j s' hj he z => ?_⟩
  · obtain ⟨es0, rfl⟩ := hm
    rw [DataW.put_eq] at he
    injection he with he
    subst he
    rcases mem_insert_iff.1 hp with rfl | hp
    · exact ⟨i, hi, rfl⟩
    · exact h.keys es0 rfl p ((List.mem_filter.1 hp).1)
  · by_cases e : j = i
    · subst e
      rw [if_pos rfl, has_put_same hm hik]; rfl
    · rw [if_neg e, has_put_other (by intro e2; injection e2 with _ e2; omega), h.has j hj]
  · by_cases e : j = i
    · subst e
      rw [if_pos rfl] at he
      injection he with he
      subst he
      exact atKey_put_same hm hik _ z
    · rw [if_neg e] at he
      rw [atKey_put_other (by intro e2; injection e2 with _ e2; omega)]
      exact h.val j s' hj he z
theorem str_of {c : ByteArray} {t : List UInt8} (h : c.data.toList = t) : c = str t := by
  subst h; exact (by cases c; rfl)
/-- 'v, ok := m[i]'. -/
theorem MapIs.look {w : World} {b N : Nat} {L : Nat → Option (List UInt8)} (h : MapIs w b N L) (hN : N ≤ 9223372036854775807) (i : Nat) (hi : i < N) :
    (Instr.lookup 77 (.map (some b)) (.int .i64 i) true).run Try.prog w = .ok (.tuple #[.string (str ((L i).getD [])), .bool (L i).isSome]) w := by
  obtain ⟨D, h1, h2⟩ := h
  obtain ⟨v, ps, hrun, hv⟩ := h1.look_ok law Try.underlying77 (zeroS w) (plainElem_string Try.underlying9 (s := ByteArray.empty) (by decide)) (key_of i (by omega))
  obtain ⟨c, rfl, hc, _⟩ := plainElem_string_inv Try.underlying9 hv
  injection hc with hc _
  rw [h2.has i hi] at hrun
  cases e : L i with
  | none =>
    rw [e] at hrun
    have hn : Maps.has D (.int .i64 i) = false := by rw [h2.has i hi, e]; rfl
    rw [atKey_of_not_has hn] at hc
    injection hc with hc
    injection hc with hc
    rw [hrun, str_of hc.symm]; rfl
  | some t =>
    rw [e] at hrun
    rw [h2.val i t hi e] at hc
    injection hc with hc
    injection hc with hc
    rw [hrun, str_of hc.symm]; rfl
/-- 'm[i]'. -/
theorem MapIs.get {w : World} {b N : Nat} {L : Nat → Option (List UInt8)} (h : MapIs w b N L) (hN : N ≤ 9223372036854775807) (i : Nat) (hi : i < N) :
    (Instr.lookup 77 (.map (some b)) (.int .i64 i) false).run Try.prog w = .ok (.string (str ((L i).getD []))) w := by
  obtain ⟨D, h1, h2⟩ := h
  obtain ⟨v, ps, hrun, hv⟩ := h1.lookup law Try.underlying77 (zeroS w) (plainElem_string Try.underlying9 (s := ByteArray.empty) (by decide)) (key_of i (by omega))
  obtain ⟨c, rfl, hc, _⟩ := plainElem_string_inv Try.underlying9 hv
  injection hc with hc _
  cases e : L i with
  | none =>
    have hn : Maps.has D (.int .i64 i) = false := by rw [h2.has i hi, e]; rfl
    rw [atKey_of_not_has hn] at hc
    injection hc with hc
    injection hc with hc
    rw [hrun, str_of hc.symm]; rfl
  | some t =>
    rw [h2.val i t hi e] at hc
    injection hc with hc
    injection hc with hc
    rw [hrun, str_of hc.symm]; rfl
/-- 'm[i] = s'. -/
theorem MapIs.store {w : World} {b N : Nat} {L : Nat → Option (List UInt8)} (h : MapIs w b N L) (hN : N ≤ 9223372036854775806) (i : Nat) (hi : i < N) (s : List UInt8) (hs : s.length ≤ 9223372036854775807) :
    ∃ w', (Instr.mapUpdate 77 (.map (some b)) (.int .i64 i) (.string (str s))).run Try.prog w = .ok () w' ∧ MapIs w' b N (fun j => if j = i then some s else L j) ∧ w.grownBy w' (some b) := by
  obtain ⟨D, h1, h2⟩ := h
  obtain ⟨w', hrun, h3, h4⟩ := h1.update law Try.underlying77 (show N < maxLen from Nat.lt_of_le_of_lt hN (by decide)) (key_of i (by omega)) (plainElem_string Try.underlying9 (s := str s) (by rw [str_size]; exact hs))
  exact ⟨w', hrun, .of h3 (reads_put h2 h1.isMap (by omega) i hi s), h4⟩
theorem run_clear_map {P : Program} {w : World} {t ty k e : TypeId} (ht : P.underlying t = some (.map k e)) {b : Nat} {es : Array MapEntry} {clock : Nat} (hb : w.heap[b]? = some (.map es clock)) :
    (Builtin.clear_ #[t] ty #[.map (some b)]).run P w = .ok (.tuple #[]) (setBlock w b (.map #[] clock)) := by
  simp [Builtin.clear_, run_underlying ht, MapKept.run_getObj_map hb, MapKept.run_setObj_map _ hb, setBlock]
theorem MapIs.clear {w : World} {b N : Nat} {L : Nat → Option (List UInt8)} (h : MapIs w b N L) (ty : TypeId) :
    ∃ w', (Builtin.clear_ #[77] ty #[.map (some b)]).run Try.prog w = .ok (.tuple #[]) w' ∧ MapIs w' b N (fun _ => none) ∧ w.grownBy w' (some b) := by
  obtain ⟨D, ⟨es, clock, hb, F, hs, hD⟩, h2⟩ := h
  refine ⟨_, run_clear_map Try.underlying77 hb, ⟨.map [], ⟨#[], clock, heap_setBlock_same hb _, ⟨by simp, MapKept.stamped_empty clock, by simp⟩, Nat.zero_le _, rfl⟩, reads_empty N⟩, ⟨rfl, rfl, rfl, by simp [setBlock], fun i _ hi => heap_setBlock_other hb _ (fun e => hi (by rw [e]))⟩⟩
/-- 'for i, s := range m' under way: which are still to come. -/
def MapRg (w : World) (b r N : Nat) (L : Nat → Option (List UInt8)) (left : Nat → Bool) (cnt : Nat) : Prop :=
  ∃ (D : DataW Unit) (lf : Lit → Bool), w.ranges Try.prog 3 (plainElem (H := Unit) Try.prog 9) b r N D lf cnt ∧ Reads D N L ∧ ∀ i : Nat, i < N → lf (.int .i64 i) = left i
theorem MapRg.isMap {w : World} {b r N cnt : Nat} {L : Nat → Option (List UInt8)} {left : Nat → Bool} (h : MapRg w b r N L left cnt) : MapIs w b N L := by
  obtain ⟨D, lf, h1, h2, _⟩ := h
  exact ⟨D, h1.owns, h2⟩
theorem MapRg.kept {w w' : World} {b r N cnt : Nat} {L : Nat → Option (List UInt8)} {left : Nat → Bool} {row : Option Nat} (h : MapRg w b r N L left cnt) (hg : w.grownBy w' row) (hb : some b ≠ row) (hr : some r ≠ row) : MapRg w' b r N L left cnt := by
  obtain ⟨D, lf, h1, h2, h3⟩ := h
  exact ⟨D, lf, h1.kept hg hb hr, h2, h3⟩
theorem MapRg.ne {w : World} {b r N cnt : Nat} {L : Nat → Option (List UInt8)} {left : Nat → Bool} (h : MapRg w b r N L left cnt) : r ≠ b := by
  obtain ⟨D, lf, h1, _⟩ := h
  exact h1.ne
section
variable {w : World} {ops : Array Oper} {rest : List Oper} {o : Oper} {a : Act} {Q : Exit → Act → World → Prop}
theorem wpList_range_map (hg : o.guard = none) (m : Operand) (hop : o.op = Op.range 77 m) (b N : Nat) (L : Nat → Option (List UInt8)) (hm : a.eval m = .map (some b)) (h : MapIs w b N L)
    (hK : ∀ w' cnt, MapRg w' b w.heap.size N L (fun i => (L i).isSome) cnt → w.grownBy w' none → w'.heap.size = w.heap.size + 1 → wpList Try.prog ops Q rest (a.put o.dst (.pointer (some ⟨w.heap.size, 0, none⟩))) w') :
    wpList Try.prog ops Q (o :: rest) a w := by
  obtain ⟨D, h1, h2⟩ := h
  refine wpList_range_own w hg m 77 hop 3 9 law Try.underlying77 (plainElem (H := Unit) Try.prog 9) b N D hm h1 fun w' hr hgr hs => hK w' _ ⟨D, _, hr, h2, fun i hi => h2.has i hi⟩ hgr hs
theorem wpList_next_map (hg : o.guard = none) (it : Operand) (hop : o.op = Op.next it false) (b r N : Nat) (L : Nat → Option (List UInt8)) (left : Nat → Bool) (cnt : Nat) (hN : N ≤ 9223372036854775807) (hit : a.eval it = .pointer (some ⟨r, 0, none⟩)) (h : MapRg w b r N L left cnt)
    (hDone : (∀ i, i < N → left i = false) → wpList Try.prog ops Q rest (a.put o.dst (.tuple #[.bool false])) w)
    (hMore : ∀ (i : Nat) (s : List UInt8) (w' : World) (cnt' : Nat), i < N → left i = true → L i = some s → s.length ≤ 9223372036854775807 → MapRg w' b r N L (fun j => left j && !decide (j = i)) cnt' → cnt' < cnt → w.grownBy w' (some r) → w'.heap.size = w.heap.size →
      (Instr.entry (.pointer (some ⟨r, 0, none⟩))).run Try.prog w' = .ok (.tuple #[.int .i64 i, .string (str s)]) w' → wpList Try.prog ops Q rest (a.put o.dst (.tuple #[.bool true, .int .i64 i, .string (str s)])) w') :
    wpList Try.prog ops Q (o :: rest) a w := by
  obtain ⟨D, lf, h1, h2, h3⟩ := h
  refine wpList_next_ranges_is w hg it hop 3 9 .i64 law Try.underlying3 Try.underlying9 b r N D lf cnt hit h1 (fun _ hl => hDone fun i hi => by rw [← h3 i hi]; exact hl _) ?_
  intro x c w' cnt' hwx hwc hlx hat hrg hlt hgr hsz hen
  obtain ⟨es, clock, since, seen, c0, hb, F, hs, hD, hr, h5, h6, h7, h8, h9⟩ := h1
  obtain ⟨e, he, hek⟩ := h8 _ hlx
  obtain ⟨i, hi, hxi⟩ := h2.keys _ hD (Go.WideElems.rg Try.prog 3 (plainElem (H := Unit) Try.prog 9) e) (mem_sorted.2 (List.mem_map_of_mem he))
  rw [hek] at hxi
  injection hxi with _ hxi
  subst hxi
  have hli : left i = true := by rw [← h3 i hi]; exact hlx
  have hhas : Maps.has D (.int .i64 i) = true := Maps.has_true_of_atKey hat
  rw [h2.has i hi] at hhas
  obtain ⟨s, hsL⟩ := Option.isSome_iff_exists.1 hhas
  have hv := h2.val i s hi hsL (.lit (.string []))
  rw [hat] at hv
  injection hv with hv
  injection hv with hv
  have hcs := str_of hv
  subst hcs
  refine hMore i s w' cnt' hi hli hsL (by rw [str_size] at hwc; exact hwc) ⟨D, _, hrg, h2, fun j hj => ?_⟩ hlt hgr hsz hen
  rw [h3 j hj]
  congr 2
  rw [Bool.eq_iff_iff, decide_eq_true_eq, WideAt.sameKey_iff (isKey_of i (by omega))]
  constructor
  · intro e; injection e with _ e; omega
  · intro e; rw [e]
end
end Go.Proofs.Ytjfpanamkkdebaa
namespace Go.Proofs.Ytjfpanamkkdebaa
open Go.RowKit
set_option linter.unusedVariables false
set_option linter.unusedSimpArgs false
theorem info_u8 : (Try.prog.info? 5).map (fun i => (i.zero, i.size, i.bytes)) = some (some (.int .u8 0), 1, 1) := by kernel_rfl
/-- Bytes that the call itself made. -/
def OB (w : World) (base : Nat) (v : Value) (bs : List UInt8) : Prop := w.ownsRow base 5 1 v bs.length (bs.map vb)
theorem OB.mk {w : World} {base n : Nat} {v : Value} {xs : List Value} {bs : List UInt8} (h : w.ownsRow base 5 1 v n xs) (hn : n = bs.length) (hx : xs = bs.map vb) : OB w base v bs := by
  subst hn
  subst hx
  exact h
theorem RB.of_own {w : World} {base : Nat} {A : Option Addr} {n c : Nat} {bs : List UInt8} (h : OB w base (.slice A n c) bs) : RB w A bs := Lies.of_own h
theorem OB.form {w : World} {base : Nat} {v : Value} {bs : List UInt8} (h : OB w base v bs) : ∃ A c, v = .slice A bs.length c ∧ bs.length ≤ c ∧ (A = none → c = 0) := by
  rcases h.2 with ⟨rfl, h0⟩ | ⟨g, cap, cur, rfl, _, _, h, _⟩
  · exact ⟨_, _, by rw [h0], by omega, fun _ => rfl⟩
  · exact ⟨_, _, rfl, h, fun h => by cases h⟩
theorem OB.below {w w' : World} {base : Nat} {v : Value} {bs : List UInt8} (h : OB w base v bs) (hb : Below w.heap.size w w') : OB w' base v bs := by
  refine World.ownsRow.kept h (row := none) ⟨hb.os, hb.tape, hb.output, hb.size, fun k hk _ => hb.block k hk⟩ ?_
  cases v.ownBlock <;> simp
theorem OB.set {w : World} {base g n c : Nat} {bs : List UInt8} (h : OB w base (.slice (some ⟨g, 0, none⟩) n c) bs) (i : Nat) (y : UInt8) (hn : n = bs.length) : OB (w.setCell ⟨g, i, none⟩ (vb y)) base (.slice (some ⟨g, 0, none⟩) n c) (bs.set i y) := by
  subst hn
  have := (World.ownsRow.stored h i (vb y)).1
  unfold OB
  rw [List.length_set, List.map_set]
  exact this
theorem OB.drew {w : World} {base : Nat} {v : Value} {bs : List UInt8} (h : OB w base v bs) : OB w.drew base v bs := h
theorem OB.mono {w : World} {base base' : Nat} {v : Value} {bs : List UInt8} (h : OB w base v bs) (hb : base' ≤ base) : OB w base' v bs := by
  refine ⟨h.1, ?_⟩
  rcases h.2 with h | ⟨g, cap, cur, hv, hg, r⟩
  · exact .inl h
  · exact .inr ⟨g, cap, cur, hv, Nat.le_trans hb hg, r⟩
theorem vb_ofNat (n : Nat) : vb (UInt8.ofNat n) = .int .u8 ((n : Int) % 256) := by
  simp [vb]
theorem vbs_one (bs : List UInt8) : ∀ u ∈ bs.map vb, u.oneCell' = true := by
  intro u hu
  obtain ⟨b, _, rfl⟩ := List.mem_map.1 hu
  rfl
theorem equal_any (A B : Option Addr) (c d : Nat) (xs ys : List UInt8) (w : World) (hr : RB w A xs) (hs : RB w B ys) :
    Calls Try.prog 14 #[.slice A xs.length c, .slice B ys.length d] w fun e w' => e = .returned (.bool (xs == ys)) ∧ w = w' := by
  have k1 := RB.str (P := Try.prog) (src := 29) (dst := 9) Try.underlying29 Try.underlying5 Try.underlying9 hr xs.length c rfl
  have k2 := RB.str (P := Try.prog) (src := 29) (dst := 9) Try.underlying29 Try.underlying5 Try.underlying9 hs ys.length d rfl
  go_enter Try.func14, Try.ntmps14
  go_wp2
  go_ret
  refine ⟨?_, rfl⟩
  show Ending.returned (.bool ((str xs).toList == (str ys).toList)) = _
  rw [str_toList', str_toList']
end Go.Proofs.Ytjfpanamkkdebaa
namespace Go.Proofs.Ytjfpanamkkdebaa
open Go.ChangeShapes Go.WideShapes Go.ChangeAt Go.RowKit
set_option linter.unusedVariables false
section
variable {H : Type} {enc : TypeId × Value → H} {P : Program} {W : World} {base : Nat} {spare : Nat → Bool} {held : Bool} {t e : TypeId}
/-- A slice of whole numbers that came in. -/
theorem open_nums {k : IntKind} {a : Option Addr} {len cap : Nat} {d : DataW H} {ps : List MemPlace} {ts : List TypeId} {ds : List (DataW H)} {j : Nat}
    (hsz : (DataW.weightsEach P ts ds).all (· ≤ reachBytes) = true) (ht : ts[j]? = some t) (hd : ds[j]? = some d) (hu : P.underlying t = some (.slice e)) (he : P.underlying e = some (.int k)) (hc : P.cellsOf e = 1) {B : Nat} (hB : P.bytesOf e = B)
    (h : DataW.Trod enc P W base spare held t (.slice a len cap) d ps) :
    ∃ zs : List Int, zs.length = len ∧ Lies W a (zs.map (Value.int k)) ∧ (a = none → cap = 0) ∧ len ≤ cap ∧ len * B ≤ 140737488351232 ∧ ∀ z ∈ zs, (Lit.int k z).wf = true := by
  obtain ⟨fuel, hf⟩ := h
  rcases open_ints hu he hc hf with ⟨hcs, _⟩ | ⟨x, l, c, zs, hcs, _, hl, hm, hz, hx, hcell, hwz⟩
  · simp [Value.cells] at hcs
    obtain ⟨rfl, rfl, rfl⟩ := hcs
    exact ⟨[], rfl, Lies.nil _ _, fun _ => rfl, Nat.le_refl _, by omega, by simp⟩
  · simp [Value.cells] at hcs
    obtain ⟨rfl, rfl, rfl⟩ := hcs
    obtain ⟨hx, _⟩ := Prod.mk.inj hx
    subst hx
    have z := sized_slice hsz ht hd hu
    rw [hB] at z
    have hl2 : len ≤ zs.length := by
      rw [hz]
      split
      · exact hl
      · exact Nat.le_refl _
    have h1 : (lits (H := H) k (zs.take len)).length + (lits (H := H) k (zs.drop len)).length = zs.length := by
      simp [lits]
      omega
    rw [h1] at z
    refine ⟨zs.take len, by simp; omega, ?_, by simp, hl, Nat.le_trans (Nat.mul_le_mul_right _ hl2) z, fun n hn => hwz n (List.mem_of_mem_take hn)⟩
    intro i v hv
    rw [List.getElem?_map] at hv
    obtain ⟨n, hn, rfl⟩ := Option.map_eq_some_iff.1 hv
    rw [List.getElem?_take] at hn
    split at hn
    · refine ⟨_, rfl, ?_⟩
      rw [hcell i (by omega), List.getD, hn]
      rfl
    · cases hn
theorem wf_u8 {z : Int} (h : (Lit.int .u8 z).wf = true) : 0 ≤ z ∧ z < 256 := by
  simp [Lit.wf, IntKind.min, IntKind.max, IntKind.bits, IntKind.signed] at h
  omega
theorem wf_i64 {z : Int} (h : (Lit.int .i64 z).wf = true) : -9223372036854775808 ≤ z ∧ z ≤ 9223372036854775807 := by
  simp [Lit.wf, IntKind.min, IntKind.max, IntKind.bits, IntKind.signed] at h
  omega
/-- A slice of bytes that came in. -/
theorem open_bytes {a : Option Addr} {len cap : Nat} {d : DataW H} {ps : List MemPlace} {ts : List TypeId} {ds : List (DataW H)} {j : Nat}
    (hsz : (DataW.weightsEach P ts ds).all (· ≤ reachBytes) = true) (ht : ts[j]? = some t) (hd : ds[j]? = some d) (hu : P.underlying t = some (.slice e)) (he : P.underlying e = some (.int .u8)) (hc : P.cellsOf e = 1) (hB : P.bytesOf e = 1)
    (h : DataW.Trod enc P W base spare held t (.slice a len cap) d ps) :
    ∃ bs : List UInt8, bs.length = len ∧ RB W a bs ∧ (a = none → cap = 0) ∧ len ≤ cap ∧ len ≤ 140737488351232 := by
  obtain ⟨zs, h1, h2, h3, h4, h5, h6⟩ := open_nums hsz ht hd hu he hc hB h
  refine ⟨zs.map fun z => UInt8.ofNat z.toNat, by simpa using h1, ?_, h3, h4, by omega⟩
  have e : (zs.map fun z => UInt8.ofNat z.toNat).map vb = zs.map (Value.int .u8) := by
    rw [List.map_map]
    apply List.map_congr_left
    intro z hz
    have := wf_u8 (h6 z hz)
    simp only [Function.comp, vb, UInt8.toNat_ofNat', Value.int.injEq, true_and]
    omega
  unfold RB
  rw [e]
  exact h2
end
end Go.Proofs.Ytjfpanamkkdebaa
