/- Laws of append and make, in one form each, for rows that the call itself makes. -/
import Derived.Test.YtjfpanamkkdebaaBase
import Derived.OwnWalk
import Derived.Laws.AppendOwn
import Derived.Laws.MakeOwn
import Derived.DataElems
import Derived.Laws.Slices
import Derived.Laws.BytesArg
import Derived.Laws.IdiomStrings
import Derived.Lib.ConvBytes
namespace Go.Proofs.Ytjfpanamkkdebaa
open Go.RowKit
set_option linter.unusedVariables false
theorem Lies.grown {w w' : World} {A : Option Addr} {vs : List Value} {row : Option Nat} (h : Lies w A vs) (hg : w.grownBy w' row) (hr : ∀ a, A = some a → some a.block ≠ row) : Lies w' A vs := by
  intro k v hk
  obtain ⟨a, rfl, hc⟩ := h k v hk
  exact ⟨a, rfl, hg.cell hc (by have := hr a rfl; cases h : row <;> simp_all [Addr.add]; split <;> simp_all)⟩
/-- An owned row lies at its address. -/
theorem Lies.of_own {w : World} {base : Nat} {e : TypeId} {size : Nat} {A : Option Addr} {n c m : Nat} {xs : List Value} (h : w.ownsRow base e size (.slice A n c) m xs) : Lies w A xs := by
  intro k v hk
  rcases h.2 with ⟨hv, rfl⟩ | ⟨g, cap, cur, hv, _⟩
  · have : xs = [] := List.eq_nil_of_length_eq_zero (by simpa using h.1)
    subst this
    simp at hk
  · simp only [Value.slice.injEq] at hv
    obtain ⟨rfl, rfl, rfl⟩ := hv
    exact ⟨_, rfl, h.cells (g := g) rfl k v hk⟩
/-- The value of an owned row is a slice. -/
theorem own_form {w : World} {base : Nat} {e : TypeId} {size : Nat} {v : Value} {n : Nat} {xs : List Value} (h : w.ownsRow base e size v n xs) : ∃ A c, v = .slice A n c ∧ n ≤ c := by
  rcases h.2 with ⟨rfl, rfl⟩ | ⟨g, cap, cur, rfl, _, _, h, _⟩
  · exact ⟨_, _, rfl, Nat.le_refl _⟩
  · exact ⟨_, _, rfl, h⟩
section
variable {P : Program} (w : World)
theorem run_app (base : Nat) (t ty e : TypeId) (z : Value) (size bytes : Nat) (ht : P.underlying t = some (.slice e))
    (hinfo : (P.info? e).map (fun i => (i.zero, i.size, i.bytes)) = some (some z, size, bytes)) (hzs : z.cells.size = size) (hsz : 0 < size)
    (v : Value) (n : Nat) (xs : List Value) (hown : w.ownsRow base e size v n xs)
    (B : Option Addr) (m c : Nat) (news : List Value) (hl : news.length = m * size) (hnews : Lies w B news) (h1 : ∀ u ∈ news, u.oneCell' = true) (hB : B = none → c = 0)
    (h63 : n + m ≤ maxLen) (hbytes : (n + m) * bytes ≤ 140737488355328) (hbase : base ≤ w.heap.size) :
    ∃ v' w', (Builtin.append_ #[t, t] ty #[v, .slice B m c]).run P w = .ok v' w' ∧ w'.ownsRow base e size v' (n + m) (xs ++ news) ∧ w.grownBy w' v.ownBlock ∧
      (v' = .slice none 0 0 ↔ v = .slice none 0 0 ∧ m = 0) := by
  obtain ⟨i, hi, hz, hsize, hby⟩ := info_parts hinfo
  cases B with
  | some ad =>
    refine run_append_own w base t ty e i z size bytes ht hi hz hsize hby hzs hsz v n xs hown ad m c news hl ?_ h1 h63 hbytes hbase
    intro j u hu
    obtain ⟨a, ha, hc⟩ := hnews j u hu
    cases ha
    exact hc
  | none =>
    have hn : news = [] := by
      cases news with
      | nil => rfl
      | cons x news => obtain ⟨a, ha, _⟩ := hnews 0 x rfl; cases ha
    subst hn
    obtain rfl : m = 0 := by
      rcases Nat.eq_zero_or_pos m with h | h
      · exact h
      · have := Nat.mul_pos h hsz; simp at hl; omega
    obtain rfl := hB rfl
    refine ⟨v, w, run_append_owned_none w base t ty e i size ht hi v n xs hown, by simpa using hown, ⟨rfl, rfl, rfl, Nat.le_refl _, fun _ _ _ => rfl⟩, by simp⟩
theorem wp_app {o : Oper} {a : Act} {K : Act → World → Prop} {Q : Exit → Act → World → Prop} (s x : Operand) (t : TypeId)
    (ho : o.op = .call { callee := .builtin .append, args := #[s, x], argTypes := #[t, t] })
    (base : Nat) (e : TypeId) (z : Value) (size bytes : Nat) (ht : P.underlying t = some (.slice e))
    (hinfo : (P.info? e).map (fun i => (i.zero, i.size, i.bytes)) = some (some z, size, bytes)) (hzs : z.cells.size = size) (hsz : 0 < size)
    (v : Value) (n : Nat) (xs : List Value) (hs : a.eval s = v) (hown : w.ownsRow base e size v n xs)
    (B : Option Addr) (m c : Nat) (news : List Value) (hx : a.eval x = .slice B m c) (hl : news.length = m * size) (hnews : Lies w B news) (h1 : ∀ u ∈ news, u.oneCell' = true) (hB : B = none → c = 0)
    (h63 : n + m ≤ maxLen) (hbytes : (n + m) * bytes ≤ 140737488355328) (hbase : base ≤ w.heap.size)
    (h : ∀ v' w', w'.ownsRow base e size v' (n + m) (xs ++ news) → w.grownBy w' v.ownBlock → (v' = .slice none 0 0 ↔ v = .slice none 0 0 ∧ m = 0) → K (a.put o.dst v') w') : o.wp P a w K Q := by
  obtain ⟨v', w', hr, h2, h3, h4⟩ := run_app (P := P) w base t o.type e z size bytes ht hinfo hzs hsz v n xs hown B m c news hl hnews h1 hB h63 hbytes hbase
  unfold Oper.wp execOp
  simp only [ho, resolve, invoke, builtin, Sem.run_bind, Sem.run_pure, Result.andThen_ok, List.map_toArray, List.map_cons, List.map_nil, hs, hx, hr]
  exact h v' w' h2 h3 h4
theorem wpList_app {ops : Array Oper} {rest : List Oper} {o : Oper} {a : Act} {Q : Exit → Act → World → Prop} (hgd : o.guard = none) (s x : Operand) (t : TypeId)
    (ho : o.op = .call { callee := .builtin .append, args := #[s, x], argTypes := #[t, t] })
    (base : Nat) (e : TypeId) (z : Value) (size bytes : Nat) (ht : P.underlying t = some (.slice e))
    (hinfo : (P.info? e).map (fun i => (i.zero, i.size, i.bytes)) = some (some z, size, bytes)) (hzs : z.cells.size = size) (hsz : 0 < size)
    (v : Value) (n : Nat) (xs : List Value) (hs : a.eval s = v) (hown : w.ownsRow base e size v n xs)
    (B : Option Addr) (m c : Nat) (news : List Value) (hx : a.eval x = .slice B m c) (hl : news.length = m * size) (hnews : Lies w B news) (h1 : ∀ u ∈ news, u.oneCell' = true) (hB : B = none → c = 0)
    (h63 : n + m ≤ maxLen) (hbytes : (n + m) * bytes ≤ 140737488355328) (hbase : base ≤ w.heap.size)
    (h : ∀ v' w', w'.ownsRow base e size v' (n + m) (xs ++ news) → w.grownBy w' v.ownBlock → (v' = .slice none 0 0 ↔ v = .slice none 0 0 ∧ m = 0) → wpList P ops Q rest (a.put o.dst v') w') : wpList P ops Q (o :: rest) a w :=
  wpList_plain hgd fun K hK => wp_app w s x t ho base e z size bytes ht hinfo hzs hsz v n xs hs hown B m c news hx hl hnews h1 hB h63 hbytes hbase fun v' w' h2 h3 h4 => hK _ _ (h v' w' h2 h3 h4)
theorem step_app {ops : Array Oper} {o : Oper} {a : Act} {K : Act → World → Prop} {Q : Exit → Act → World → Prop} {E : Prop} (hgd : o.guard = none) (s x : Operand) (t : TypeId)
    (ho : o.op = .call { callee := .builtin .append, args := #[s, x], argTypes := #[t, t] })
    (base : Nat) (e : TypeId) (z : Value) (size bytes : Nat) (ht : P.underlying t = some (.slice e))
    (hinfo : (P.info? e).map (fun i => (i.zero, i.size, i.bytes)) = some (some z, size, bytes)) (hzs : z.cells.size = size) (hsz : 0 < size)
    (v : Value) (n : Nat) (xs : List Value) (hs : a.eval s = v) (hown : w.ownsRow base e size v n xs)
    (B : Option Addr) (m c : Nat) (news : List Value) (hx : a.eval x = .slice B m c) (hl : news.length = m * size) (hnews : Lies w B news) (h1 : ∀ u ∈ news, u.oneCell' = true) (hB : B = none → c = 0)
    (h63 : n + m ≤ maxLen) (hbytes : (n + m) * bytes ≤ 140737488355328) (hbase : base ≤ w.heap.size)
    (h : ∀ v' w', w'.ownsRow base e size v' (n + m) (xs ++ news) → w.grownBy w' v.ownBlock → (v' = .slice none 0 0 ↔ v = .slice none 0 0 ∧ m = 0) → K (a.put o.dst v') w') : if Region.wanted o (yielded ops a.tmps) = true then Oper.wp P o a w K Q else E := by
  rw [if_pos (by simp [Region.wanted, hgd])]
  exact wp_app w s x t ho base e z size bytes ht hinfo hzs hsz v n xs hs hown B m c news hx hl hnews h1 hB h63 hbytes hbase h
/-- An append to a slice without room, of something: it goes into new memory. -/
theorem wp_app_new {o : Oper} {a : Act} {K : Act → World → Prop} {Q : Exit → Act → World → Prop} (s x : Operand) (t : TypeId)
    (ho : o.op = .call { callee := .builtin .append, args := #[s, x], argTypes := #[t, t] })
    (base : Nat) (e : TypeId) (z : Value) (size bytes : Nat) (ht : P.underlying t = some (.slice e))
    (hinfo : (P.info? e).map (fun i => (i.zero, i.size, i.bytes)) = some (some z, size, bytes)) (hzs : z.cells.size = size) (hsz : 0 < size)
    (A : Option Addr) (n k : Nat) (xs : List Value) (hs : a.eval s = .slice A n k) (hk : k = n) (hA : A = none → n = 0) (hxl : xs.length = n * size) (hxs : Lies w A xs)
    (B : Addr) (m c : Nat) (news : List Value) (hx : a.eval x = .slice (some B) m c) (hm : 0 < m) (hl : news.length = m * size) (hnews : Lies w (some B) news) (h1 : ∀ u ∈ news, u.oneCell' = true)
    (h63 : n + m ≤ maxLen) (hbytes : (n + m) * bytes ≤ 140737488355328) (hbase : base ≤ w.heap.size)
    (h : ∀ v' w', w'.ownsRow base e size v' (n + m) (xs ++ news) → w.grownBy w' none → v' ≠ .slice none 0 0 → K (a.put o.dst v') w') : o.wp P a w K Q := by
  obtain ⟨i, hi, hz, hsize, hby⟩ := info_parts hinfo
  subst hsize
  subst hby
  subst hk
  have hn' : ∀ j u, news[j]? = some u → w.cell? (B.add j) = some u := by
    intro j u hu
    obtain ⟨b, hb, hc⟩ := hnews j u hu
    cases hb
    exact hc
  have key : ∃ v' w', (Builtin.append_ #[t, t] o.type #[.slice A k k, .slice (some B) m c]).run P w = .ok v' w' ∧ w'.ownsRow base e i.size v' (k + m) (xs ++ news) ∧ w.grownBy w' none ∧ v' ≠ .slice none 0 0 := by
    cases A with
    | none =>
      obtain rfl := hA rfl
      have hx0 : xs = [] := List.eq_nil_of_length_eq_zero (by simpa using hxl)
      subst hx0
      obtain ⟨v', w', hr, h2, h3, h4⟩ := run_append_own w base t o.type e i z i.size i.bytes ht hi hz rfl rfl hzs hsz _ 0 [] (World.ownsRow_nil w base e i.size) B m c news hl hn'
        h1 h63 hbytes hbase
      exact ⟨v', w', hr, h2, h3, fun hv => by have := (h4.1 hv).2; omega⟩
    | some b =>
      have hx' : ∀ j u, xs[j]? = some u → w.cell? (b.add j) = some u := by
        intro j u hu
        obtain ⟨b', hb, hc⟩ := hxs j u hu
        cases hb
        exact hc
      have h63' := h63
      simp only [maxLen] at h63'
      have hr := run_append_grow (P := P) w t o.type e i z ht hi hz b k k xs hxl hx' B m c news hl hn' (by omega) (by omega) (growslice_fits (by omega) hbytes)
      have hge := grownCap_ge w (k + m) k e
      have hcm : grownCap w (k + m) k e ≤ maxLen := grownCap_le_maxLen w (k + m) k e h63
      refine ⟨_, _, hr, ⟨by rw [List.length_append, hxl, hl, Nat.add_mul], .inr ⟨w.heap.size, _, _, rfl, hbase, heap_alloc_new w.drew _, hge, hcm, ?_, ?_⟩⟩, ⟨rfl, rfl, rfl, by simp, fun j hj _ => heap_alloc_old w.drew _ hj⟩, by simp⟩
      · simp only [Array.size_append, List.size_toArray, size_zeroCells, hzs, hxl, hl, ← Nat.add_mul]
        congr 1
        omega
      · simp only [Array.toList_append, List.append_assoc]
        rw [← List.append_assoc]
        have : (k + m) * i.size = (xs ++ news).length := by rw [List.length_append, hxl, hl, Nat.add_mul]
        rw [this]
        exact List.take_left
  obtain ⟨v', w', hr, h2, h3, h4⟩ := key
  unfold Oper.wp execOp
  simp only [ho, resolve, invoke, builtin, Sem.run_bind, Sem.run_pure, Result.andThen_ok, List.map_toArray, List.map_cons, List.map_nil, hs, hx, hr]
  exact h v' w' h2 h3 h4
theorem wpList_app_new {ops : Array Oper} {rest : List Oper} {o : Oper} {a : Act} {Q : Exit → Act → World → Prop} (hgd : o.guard = none) (s x : Operand) (t : TypeId)
    (ho : o.op = .call { callee := .builtin .append, args := #[s, x], argTypes := #[t, t] })
    (base : Nat) (e : TypeId) (z : Value) (size bytes : Nat) (ht : P.underlying t = some (.slice e))
    (hinfo : (P.info? e).map (fun i => (i.zero, i.size, i.bytes)) = some (some z, size, bytes)) (hzs : z.cells.size = size) (hsz : 0 < size)
    (A : Option Addr) (n k : Nat) (xs : List Value) (hs : a.eval s = .slice A n k) (hk : k = n) (hA : A = none → n = 0) (hxl : xs.length = n * size) (hxs : Lies w A xs)
    (B : Addr) (m c : Nat) (news : List Value) (hx : a.eval x = .slice (some B) m c) (hm : 0 < m) (hl : news.length = m * size) (hnews : Lies w (some B) news) (h1 : ∀ u ∈ news, u.oneCell' = true)
    (h63 : n + m ≤ maxLen) (hbytes : (n + m) * bytes ≤ 140737488355328) (hbase : base ≤ w.heap.size)
    (h : ∀ v' w', w'.ownsRow base e size v' (n + m) (xs ++ news) → w.grownBy w' none → v' ≠ .slice none 0 0 → wpList P ops Q rest (a.put o.dst v') w') : wpList P ops Q (o :: rest) a w :=
  wpList_plain hgd fun K hK => wp_app_new w s x t ho base e z size bytes ht hinfo hzs hsz A n k xs hs hk hA hxl hxs B m c news hx hm hl hnews h1 h63 hbytes hbase fun v' w' h2 h3 h4 => hK _ _ (h v' w' h2 h3 h4)
theorem step_app_new {ops : Array Oper} {o : Oper} {a : Act} {K : Act → World → Prop} {Q : Exit → Act → World → Prop} {E : Prop} (hgd : o.guard = none) (s x : Operand) (t : TypeId)
    (ho : o.op = .call { callee := .builtin .append, args := #[s, x], argTypes := #[t, t] })
    (base : Nat) (e : TypeId) (z : Value) (size bytes : Nat) (ht : P.underlying t = some (.slice e))
    (hinfo : (P.info? e).map (fun i => (i.zero, i.size, i.bytes)) = some (some z, size, bytes)) (hzs : z.cells.size = size) (hsz : 0 < size)
    (A : Option Addr) (n k : Nat) (xs : List Value) (hs : a.eval s = .slice A n k) (hk : k = n) (hA : A = none → n = 0) (hxl : xs.length = n * size) (hxs : Lies w A xs)
    (B : Addr) (m c : Nat) (news : List Value) (hx : a.eval x = .slice (some B) m c) (hm : 0 < m) (hl : news.length = m * size) (hnews : Lies w (some B) news) (h1 : ∀ u ∈ news, u.oneCell' = true)
    (h63 : n + m ≤ maxLen) (hbytes : (n + m) * bytes ≤ 140737488355328) (hbase : base ≤ w.heap.size)
    (h : ∀ v' w', w'.ownsRow base e size v' (n + m) (xs ++ news) → w.grownBy w' none → v' ≠ .slice none 0 0 → K (a.put o.dst v') w') : if Region.wanted o (yielded ops a.tmps) = true then Oper.wp P o a w K Q else E := by
  rw [if_pos (by simp [Region.wanted, hgd])]
  exact wp_app_new w s x t ho base e z size bytes ht hinfo hzs hsz A n k xs hs hk hA hxl hxs B m c news hx hm hl hnews h1 h63 hbytes hbase h
/-- make with a length and a capacity: zeros, at the head of a new row. -/
theorem wpList_mk {ops : Array Oper} {rest : List Oper} {o : Oper} {a : Act} {Q : Exit → Act → World → Prop}
    (hg : o.guard = none) (l c : Operand) (t : TypeId) (hop : o.op = Op.makeSlice t l c)
    (base : Nat) (e : TypeId) (z : Value) (bytes : Nat) (ht : P.underlying t = some (.slice e))
    (hinfo : (P.info? e).map (fun i => (i.zero, i.size, i.bytes)) = some (some z, 1, bytes)) (hzs : z.cells = #[z])
    (kl kc : IntKind) (L C : Int) (n k : Nat) (hl : a.eval l = .int kl L) (hc : a.eval c = .int kc C) (hL : L = (n : Int)) (hC : C = (k : Int)) (hnk : n ≤ k) (b2 : bytes * k ≤ 281474976710656) (b3 : k ≤ maxLen) (b4 : base ≤ w.heap.size)
    (hK : ∀ w', w'.ownsRow base e 1 (.slice (some ⟨w.heap.size, 0, none⟩) n k) n (List.replicate n z) → w.grownBy w' none → wpList P ops Q rest (a.put o.dst (.slice (some ⟨w.heap.size, 0, none⟩) n k)) w') :
    wpList P ops Q (o :: rest) a w := by
  refine wpList_plain hg fun K hK' => ?_
  obtain ⟨i, hi, hz, hsize, hby⟩ := info_parts hinfo
  subst hL
  subst hC
  have b3' := b3
  simp only [maxLen] at b3'
  have hr := run_make (P := P) w t e i z ht hi hz kl kc n k (by omega) (by omega) (by rw [hby]; omega) (by omega)
  simp only [Int.toNat_natCast, hsize, Nat.mul_one, hzs] at hr
  unfold Oper.wp
  simp [execOp, hop, hl, hc, hr, Result.andThen]
  refine hK' _ _ (hK _ ⟨by simp, .inr ⟨w.heap.size, k, _, rfl, b4, heap_alloc_new w _, hnk, b3, by simp [size_madeCells], ?_⟩⟩ (World.grownBy_alloc w _ none))
  rw [toList_madeCells_one, Nat.mul_one, List.take_replicate, Nat.min_eq_left hnk]
/-- A bound of a slice expression: none, or this number. -/
def BndIs : Option Value → Nat → Nat → Prop
  | none, d, v => v = d
  | some x, _, v => ∃ k, x = .int k (v : Int)
/-- Where a part of a slice begins. -/
def CutAt (A A' : Option Addr) (l m size : Nat) : Prop := A' = (if m = l then A else A.map (·.add (l * size)))
theorem CutAt.cap0 {A A' : Option Addr} {l m size : Nat} (h : CutAt A A' l m size) (hA : A = none → m = 0) : A' = none → m - l = 0 := by
  intro e
  unfold CutAt at h
  split at h
  · omega
  · subst e
    cases A with
    | none => have := hA rfl; omega
    | some a => simp at h
/-- A part of a slice: at some address. -/
theorem wpList_cut {ops : Array Oper} {rest : List Oper} {o : Oper} {a : Act} {Q : Exit → Act → World → Prop} (hgd : o.guard = none) (x : Operand) (lo hi mx : Option Operand) (t : TypeId)
    (ho : o.op = .slice t x lo hi mx) (e : TypeId) (z : Value) (size bytes : Nat) (ht : P.underlying t = some (.slice e))
    (hinfo : (P.info? e).map (fun i => (i.zero, i.size, i.bytes)) = some (some z, size, bytes))
    (A : Option Addr) (n c : Nat) (hx : a.eval x = .slice A n c) (l h m : Nat) (hl : BndIs (lo.map a.eval) 0 l) (hh : BndIs (hi.map a.eval) n h) (hm : BndIs (mx.map a.eval) c m) (hmh : mx.isSome = true → hi.isSome = true)
    (h1 : l ≤ h) (h2 : h ≤ m) (h3 : m ≤ c)
    (hK : ∀ A', CutAt A A' l m size → wpList P ops Q rest (a.put o.dst (.slice A' (h - l) (m - l))) w) : wpList P ops Q (o :: rest) a w := by
  refine wpList_plain hgd fun K hK' => ?_
  obtain ⟨i, hi', hz, hsize, hby⟩ := info_parts hinfo
  have hb : (Instr.sliceBounds true n c (lo.map a.eval) (hi.map a.eval) (mx.map a.eval)).run P w = .ok (l, h, m) w := by
    unfold Instr.sliceBounds
    cases mx with
    | none =>
      simp only [Option.map_none, BndIs] at hm
      subst hm
      cases hi with
      | none =>
        simp only [Option.map_none, BndIs] at hh
        subst hh
        cases lo with
        | none => simp only [Option.map_none, BndIs] at hl; subst hl; simp
        | some y =>
          simp only [Option.map_some, BndIs] at hl
          obtain ⟨k, hk⟩ := hl
          simp [hk, run_sliceBound, h1]
      | some y2 =>
        simp only [Option.map_some, BndIs] at hh
        obtain ⟨k2, hk2⟩ := hh
        have e2 : (Instr.sliceBound (.int k2 (h : Int)) m .sliceAcap).run P w = .ok h w := by rw [run_sliceBound w k2 h m _ (by omega) (by omega)]; simp
        cases lo with
        | none => simp only [Option.map_none, BndIs] at hl; subst hl; simp [hk2, e2]
        | some y =>
          simp only [Option.map_some, BndIs] at hl
          obtain ⟨k, hk⟩ := hl
          have e1 : (Instr.sliceBound (.int k (l : Int)) h .sliceB).run P w = .ok l w := by rw [run_sliceBound w k l h _ (by omega) (by omega)]; simp
          simp [hk, hk2, e1, e2]
    | some y3 =>
      cases hi with
      | none => simp at hmh
      | some y2 =>
        simp only [Option.map_some, BndIs] at hh hm
        obtain ⟨k2, hk2⟩ := hh
        obtain ⟨k3, hk3⟩ := hm
        have e3 : (Instr.sliceBound (.int k3 (m : Int)) c .slice3Acap).run P w = .ok m w := by rw [run_sliceBound w k3 m c _ (by omega) (by omega)]; simp
        have e2 : (Instr.sliceBound (.int k2 (h : Int)) m .slice3B).run P w = .ok h w := by rw [run_sliceBound w k2 h m _ (by omega) (by omega)]; simp
        cases lo with
        | none => simp only [Option.map_none, BndIs] at hl; subst hl; simp [hk2, hk3, e2, e3]
        | some y =>
          simp only [Option.map_some, BndIs] at hl
          obtain ⟨k, hk⟩ := hl
          have e1 : (Instr.sliceBound (.int k (l : Int)) h .slice3C).run P w = .ok l w := by rw [run_sliceBound w k l h _ (by omega) (by omega)]; simp
          simp [hk, hk2, hk3, e1, e2, e3]
  have he : P.elem t = e := by simp [Program.elem, ht]
  have hu : P.underlying t = some (.slice (P.elem t)) := by rw [he]; exact ht
  have hs : (sizeOf e).run P w = .ok size w := by simp [sizeOf, typeInfo, hi', hsize]
  have hr : (Instr.sliceAt t (.slice A n c) (lo.map a.eval) (hi.map a.eval) (mx.map a.eval)).run P w = .ok (.slice (if m = l then A else A.map (·.add (l * size))) (h - l) (m - l)) w := by
    rw [run_sliceAt_slice (P := P) w t _ _ _ _ hu, run_slice_any (P := P) w t A n c hu, hb, Result.andThen_ok, he, hs, Result.andThen_ok]
    rfl
  unfold Oper.wp
  simp only [execOp, ho, hx, Sem.run_bind, hr, Result.andThen_ok]
  exact hK' _ _ (hK _ rfl)
theorem Lies.cut {w : World} {A A' : Option Addr} {vs : List Value} {l h m size : Nat} (hv : Lies w A vs) (hA : CutAt A A' l m size) (h2 : h ≤ m) : Lies w A' ((vs.drop (l * size)).take ((h - l) * size)) := by
  intro k v hk
  unfold CutAt at hA
  by_cases hml : m = l
  · have : (h - l) * size = 0 := by rw [show h - l = 0 by omega, Nat.zero_mul]
    rw [this] at hk
    simp at hk
  · rw [if_neg hml] at hA
    rw [List.getElem?_take] at hk
    split at hk
    · rw [List.getElem?_drop] at hk
      obtain ⟨a, rfl, hc⟩ := hv _ v hk
      exact ⟨_, hA, by rw [Addr.add_add]; exact hc⟩
    · cases hk
theorem RB.cut {w : World} {A A' : Option Addr} {bs : List UInt8} {l m h : Nat} (hv : RB w A bs) (hA : CutAt A A' l m 1) (h2 : h ≤ m) : RB w A' ((bs.drop l).take (h - l)) := by
  have := Lies.cut hv hA h2
  rw [Nat.mul_one, Nat.mul_one, ← List.map_drop, ← List.map_take] at this
  exact this
theorem RB.from {w : World} {A A' : Option Addr} {bs : List UInt8} {l m : Nat} (hv : RB w A bs) (hA : CutAt A A' l m 1) (h2 : bs.length ≤ m) : RB w A' (bs.drop l) := by
  have := RB.cut hv hA h2
  rwa [List.take_of_length_le (by simp)] at this
/-- Bytes as a text. -/
def str (bs : List UInt8) : ByteArray := ⟨bs.toArray⟩
theorem str_toList (bs : List UInt8) : (str bs).data.toList = bs := rfl
theorem str_toList' (bs : List UInt8) : (str bs).toList = bs := by rw [ByteArray.toList_eq]; rfl
theorem str_size (bs : List UInt8) : (str bs).size = bs.length := by simp [str, ByteArray.size]
/-- A text out of bytes that lie. -/
theorem RB.str {P : Program} {w : World} {src dst e : TypeId} (hs : P.underlying src = some (.slice e)) (he : P.underlying e = some (.int .u8)) (hd : P.underlying dst = some .string)
    {A : Option Addr} {bs : List UInt8} (hr : RB w A bs) (n c : Nat) (hn : n = bs.length) : (convert src dst (.slice A n c)).run P w = .ok (.string (str bs)) w := by
  subst hn
  cases A with
  | none =>
    have h0 : bs = [] := by
      cases bs with
      | nil => rfl
      | cons b bs => obtain ⟨a, ha, _⟩ := hr.at (k := 0) (by simp); cases ha
    subst h0
    exact run_convert_bytes_nil w src e hs he _ c dst hd
  | some a =>
    have hl : (loadCells a bs.length).run P w = .ok (bs.map vb).toArray w := by
      have := run_loadCells_list (P := P) w a (bs.map vb) (fun j v hj => by obtain ⟨b, hb, hc⟩ := hr j v hj; cases hb; exact hc)
      simpa using this
    have he2 : bs.map vb = (bs.map fun b => (b.toNat : Int)).map (Value.int .u8) := by simp [vb]
    rw [he2] at hl
    rw [run_convert_bytes_string w src dst e _ _ c hs he hd, run_bytesToString w _ bs.length c _ hl, foldl_push_bytes]
    simp only [List.map_map]
    rw [show (fun n : Int => UInt8.ofNat n.toNat) ∘ (fun b : UInt8 => (b.toNat : Int)) = id from by funext b; simp]
    simp [Go.Proofs.Ytjfpanamkkdebaa.str, ByteArray.empty, ByteArray.emptyWithCapacity]
    rfl
/-- What lies in a new block. -/
theorem Lies.new (w : World) (e : TypeId) (vs : List Value) (m : Nat × Nat) : Lies (w.alloc (.cells vs.toArray e m)) (some ⟨w.heap.size, 0, none⟩) vs := by
  intro k v hk
  refine ⟨_, rfl, ?_⟩
  rw [Addr.add_lit, World.cell?_alloc_mark]
  simpa using hk
theorem RB.new (w : World) (e : TypeId) (bs : List UInt8) (m : Nat × Nat) : RB (w.alloc (.cells (bs.map vb).toArray e m)) (some ⟨w.heap.size, 0, none⟩) bs := Lies.new w e _ m
theorem Lies.drew {w : World} {A : Option Addr} {vs : List Value} (h : Lies w A vs) : Lies w.drew A vs := h
theorem RB.drew {w : World} {A : Option Addr} {bs : List UInt8} (h : RB w A bs) : RB w.drew A bs := h
/-- A slice that holds something leads somewhere. -/
theorem Lies.some {w : World} {A : Option Addr} {vs : List Value} (h : Lies w A vs) (hA : A = none) : vs = [] := by
  cases vs with
  | nil => rfl
  | cons v vs => obtain ⟨a, ha, _⟩ := h 0 v rfl; rw [hA] at ha; cases ha
theorem RB.none {w : World} {A : Option Addr} {bs : List UInt8} (h : RB w A bs) (hA : A = none) : bs.length = 0 := by
  have := Lies.some h hA
  simpa using this
theorem own_pos {w : World} {base : Nat} {e : TypeId} {size : Nat} {v : Value} {n : Nat} {xs : List Value} (h : w.ownsRow base e size v n xs) (hn : 0 < n) : ∃ g c, v = .slice (some ⟨g, 0, none⟩) n c ∧ base ≤ g ∧ n ≤ c := by
  rcases h.2 with ⟨rfl, rfl⟩ | ⟨g, cap, cur, rfl, hb, _, h, _⟩
  · omega
  · exact ⟨_, _, rfl, hb, h⟩
end
end Go.Proofs.Ytjfpanamkkdebaa
