/- Rows of records in memory; what laying a log anew makes, plain. -/
import Derived.Test.YtjfpanamkkdebaaJnI
import Derived.ArgAppend
namespace Go.Proofs.Ytjfpanamkkdebaa
open Go.RowKit
set_option linter.unusedVariables false
set_option linter.unusedSimpArgs false
theorem own_apart {w : World} {base : Nat} {e : TypeId} {size n : Nat} {v : Value} {xs : List Value} (h : w.ownsRow base e size v n xs) {k : Nat} {o : Obj} (hk : w.heap[k]? = some o) (ho : ∀ cs f, o ≠ .cells cs e f) : ∀ j, v.ownBlock = some j → j ≠ k := by
  rintro j hj rfl
  rcases h.2 with ⟨rfl, _⟩ | ⟨g, cap, cur, rfl, _, hh, _⟩
  · cases hj
  · injection hj with hj
    subst hj
    have hh2 : w.heap[g]? = some (.cells cur e (0, 0)) := hh
    have hk2 : w.heap[g]? = some o := hk
    rw [hh2] at hk2
    injection hk2 with hk2
    exact ho _ _ hk2.symm
theorem DkAt.objs {w : World} {g k m c : Nat} {d : Dsk} (h : DkAt w g k m c d) : (∃ cs, w.heap[g]? = some (.cells cs 81 (0, 0))) ∧ (∃ cs, w.heap[k]? = some (.cells cs 9 (0, 0))) ∧ (∃ es cl, w.heap[m]? = some (.map es cl)) := by
  refine ⟨⟨_, h.blk⟩, ?_, ?_⟩
  · have hr := h.row
    rcases hr.2 with ⟨e, _⟩ | ⟨g', cap, cur, e, _, hh, _⟩
    · cases e
    · injection e with e; injection e with e; injection e with e
      subst e
      exact ⟨_, hh⟩
  · obtain ⟨D, ⟨es, clock, h1, r⟩, h2⟩ := h.map
    exact ⟨es, clock, h1⟩
/-- A block that is none of a device's. -/
theorem DkAt.apart {w : World} {g k m c : Nat} {d : Dsk} (h : DkAt w g k m c d) {j : Nat} {cs : Array Value} {e : TypeId} {f : Nat × Nat} (hj : w.heap[j]? = some (.cells cs e f)) (h1 : e ≠ 81) (h2 : e ≠ 9) : j ∉ [g, k, m] := by
  obtain ⟨⟨c1, k1⟩, ⟨c2, k2⟩, ⟨c3, k3, k4⟩⟩ := h.objs
  simp only [List.mem_cons, List.not_mem_nil, or_false, not_or]
  refine ⟨?_, ?_, ?_⟩ <;> rintro rfl
  · rw [k1] at hj; injection hj with hj; injection hj with _ hj; exact h1 hj.symm
  · rw [k2] at hj; injection hj with hj; injection hj with _ hj; exact h2 hj.symm
  · rw [k4] at hj; injection hj with hj; cases hj
theorem own_blk {w : World} {base : Nat} {e : TypeId} {size n : Nat} {v : Value} {xs : List Value} (h : w.ownsRow base e size v n xs) : ∀ j, v.ownBlock = some j → ∃ cs, w.heap[j]? = some (.cells cs e (0, 0)) := by
  intro j hj
  rcases h.2 with ⟨rfl, _⟩ | ⟨g, cap, cur, rfl, _, hh, _⟩
  · cases hj
  · injection hj with hj
    subst hj
    exact ⟨_, hh⟩
/-- One record, as its row's cell has it. -/
structure RSl where
  A : Option Addr
  c : Nat
  bs : List UInt8
def RSl.v (r : RSl) : Value := .slice r.A r.bs.length r.c
def RSl.ok (w : World) (r : RSl) : Prop := OB w 0 r.v r.bs
/-- A slice, wherever in its block it begins. -/
def RowFrom (w : World) (e : TypeId) (v : Value) (xs : List Value) : Prop :=
  (v = .slice none 0 0 ∧ xs = []) ∨ ∃ g o c cs, v = .slice (some ⟨g, o, none⟩) xs.length c ∧ w.heap[g]? = some (.cells cs e (0, 0)) ∧ xs.length ≤ c ∧ o + c ≤ cs.size ∧ c ≤ maxLen ∧ ∀ j u, xs[j]? = some u → cs[o + j]? = some u
theorem RowFrom.nil (w : World) (e : TypeId) : RowFrom w e (.slice none 0 0) [] := .inl ⟨rfl, rfl⟩
theorem RowFrom.of_own {w : World} {base : Nat} {e : TypeId} {v : Value} {n : Nat} {xs : List Value} (h : w.ownsRow base e 1 v n xs) : RowFrom w e v xs := by
  have hl : xs.length = n := by rw [h.1, Nat.mul_one]
  rcases h.2 with ⟨rfl, rfl⟩ | ⟨g, cap, cur, rfl, _, hh, h1, h2, h3, h4⟩
  · exact .inl ⟨rfl, List.eq_nil_of_length_eq_zero hl⟩
  · refine .inr ⟨g, 0, cap, cur, by rw [hl], hh, by omega, by omega, h2, fun j u hj => ?_⟩
    rw [← h4, List.getElem?_take] at hj
    split at hj
    · rw [Nat.zero_add, ← Array.getElem?_toList]; exact hj
    · cases hj
theorem RowFrom.form {w : World} {e : TypeId} {v : Value} {xs : List Value} (h : RowFrom w e v xs) : ∃ A c, v = .slice A xs.length c ∧ xs.length ≤ c ∧ (A = none → c = 0) ∧ Lies w A xs := by
  rcases h with ⟨rfl, rfl⟩ | ⟨g, o, c, cs, rfl, hh, h1, h2, h3, h4⟩
  · exact ⟨none, 0, rfl, Nat.le_refl _, fun _ => rfl, Lies.nil _ _⟩
  · refine ⟨_, c, rfl, h1, fun e => (by cases e), fun j u hj => ⟨_, rfl, ?_⟩⟩
    rw [Addr.add_lit]
    exact (blk_cell hh).trans (h4 j u hj)
theorem RowFrom.only {w w' : World} {e : TypeId} {v : Value} {xs : List Value} {S : List Nat} (h : RowFrom w e v xs) (ho : Only w w' S) (hS : ∀ j cs f, w.heap[j]? = some (.cells cs e f) → j ∉ S) : RowFrom w' e v xs := by
  rcases h with h | ⟨g, o, c, cs, rfl, hh, r⟩
  · exact .inl h
  · exact .inr ⟨g, o, c, cs, rfl, (ho.block g (blk_lt hh) (hS _ _ _ hh)).trans hh, r⟩
theorem RowFrom.below {w w' : World} {e : TypeId} {v : Value} {xs : List Value} (h : RowFrom w e v xs) (ho : Below w.heap.size w w') : RowFrom w' e v xs :=
  h.only (.of_below ho []) (fun _ _ _ _ => List.not_mem_nil)
/-- The slice without its first elements. -/
theorem RowFrom.drop {w : World} {e : TypeId} {A A' : Option Addr} {n c k : Nat} {xs : List Value} (h : RowFrom w e (.slice A n c) xs) (hA : CutAt A A' k c 1) (hk : k ≤ n) : RowFrom w e (.slice A' (n - k) (c - k)) (xs.drop k) := by
  rcases h with ⟨hv, rfl⟩ | ⟨g, o, c2, cs, hv, hh, h1, h2, h3, h4⟩
  · injection hv with e1 e2 e3
    subst e1 e2 e3
    obtain rfl : k = 0 := by omega
    have : A' = none := by unfold CutAt at hA; simpa using hA
    subst this
    exact .inl ⟨rfl, rfl⟩
  · injection hv with e1 e2 e3
    subst e1 e2 e3
    have hl : xs.length - k = (xs.drop k).length := by rw [List.length_drop]
    unfold CutAt at hA
    by_cases hck : c = k
    · rw [if_pos hck] at hA
      subst hA
      refine .inr ⟨g, o, c - k, cs, by rw [hl], hh, by rw [List.length_drop]; omega, by omega, by omega, fun j u hj => ?_⟩
      have : (xs.drop k) = [] := List.eq_nil_of_length_eq_zero (by rw [List.length_drop]; omega)
      rw [this] at hj
      cases hj
    · rw [if_neg hck, Nat.mul_one, Option.map_some, Addr.add_lit] at hA
      subst hA
      refine .inr ⟨g, o + k, c - k, cs, by rw [hl], hh, by rw [List.length_drop]; omega, by omega, by omega, fun j u hj => ?_⟩
      rw [List.getElem?_drop] at hj
      rw [Nat.add_assoc]
      exact h4 _ _ hj
def RecsAt (w : World) (v : Value) (rs : List RSl) : Prop := RowFrom w 29 v (rs.map RSl.v) ∧ ∀ r ∈ rs, r.ok w
theorem RSl.ok.only {w w' : World} {r : RSl} {S : List Nat} (h : r.ok w) (ho : Only w w' S) (hS : ∀ j cs f, w.heap[j]? = some (.cells cs 5 f) → j ∉ S) : r.ok w' :=
  own_only h ho (fun j hj => by obtain ⟨cs, hc⟩ := own_blk h j hj; exact hS _ _ _ hc)
theorem RecsAt.only {w w' : World} {v : Value} {rs : List RSl} {S : List Nat} (h : RecsAt w v rs) (ho : Only w w' S) (hS : ∀ j cs e f, w.heap[j]? = some (.cells cs e f) → e = 5 ∨ e = 29 → j ∉ S) : RecsAt w' v rs :=
  ⟨h.1.only ho (fun j cs f hj => hS j cs _ f hj (.inr rfl)), fun r hr => (h.2 r hr).only ho (fun j cs f hj => hS j cs _ f hj (.inl rfl))⟩
theorem RecsAt.below {w w' : World} {v : Value} {rs : List RSl} (h : RecsAt w v rs) (ho : Below w.heap.size w w') : RecsAt w' v rs :=
  h.only (.of_below ho []) (fun _ _ _ _ _ _ => List.not_mem_nil)
/-- Over a device's doings. -/
theorem RecsAt.disk {w w' : World} {v : Value} {rs : List RSl} {g k m c : Nat} {d : Dsk} (h : RecsAt w v rs) (hd : DkAt w g k m c d) (ho : Only w w' [g, k, m]) : RecsAt w' v rs :=
  h.only ho (fun j cs e f hj he => hd.apart hj (by rcases he with rfl | rfl <;> decide) (by rcases he with rfl | rfl <;> decide))
theorem OB.disk {w w' : World} {base : Nat} {v : Value} {bs : List UInt8} {g k m c : Nat} {d : Dsk} (h : OB w base v bs) (hd : DkAt w g k m c d) (ho : Only w w' [g, k, m]) : OB w' base v bs :=
  own_only h ho (fun j hj => by obtain ⟨cs, hc⟩ := own_blk h j hj; exact hd.apart hc (by decide) (by decide))
/-- All bytes of a log. -/
def allP (snap : List UInt8) (recs : List (List UInt8)) : List UInt8 := framedP snap ++ recs.flatMap framedP
/-- A log that was laid anew, or why not; the device. -/
structure Laid where
  e : Nat
  d : Dsk
  pg : Nat
  ep : Nat
def layP (hf ep sl : Nat) (d : Dsk) (snap : List UInt8) (recs : List (List UInt8)) : Laid :=
  if growP 0 0 (allP snap recs).length d.room = false then ⟨8, d, 0, 0⟩
  else if d.nextE (1 - hf) ep ≠ 0 then ⟨d.nextE (1 - hf) ep, d, 0, 0⟩
  else
    let ep2 := d.topE (1 - hf) d.room ep + 1
    let p := pourP (1 - hf) ep2 (allP snap recs).length d 0 [] (allP snap recs)
    if p.e ≠ 0 then ⟨p.e, p.d, 0, 0⟩
    else if p.d.actE ≠ 0 then ⟨p.d.actE, p.d.synced, 0, 0⟩
    else if p.d.synced.putE (1 - sl : Nat) ep2 0 [UInt8.ofNat (1 - hf)] ≠ 0 then ⟨p.d.synced.putE (1 - sl : Nat) ep2 0 [UInt8.ofNat (1 - hf)], p.d.synced.put (1 - sl : Nat) ep2 0 [UInt8.ofNat (1 - hf)], 0, 0⟩
    else if (p.d.synced.put (1 - sl : Nat) ep2 0 [UInt8.ofNat (1 - hf)]).actE ≠ 0 then ⟨(p.d.synced.put (1 - sl : Nat) ep2 0 [UInt8.ofNat (1 - hf)]).actE, (p.d.synced.put (1 - sl : Nat) ep2 0 [UInt8.ofNat (1 - hf)]).synced, 0, 0⟩
    else ⟨0, (p.d.synced.put (1 - sl : Nat) ep2 0 [UInt8.ofNat (1 - hf)]).synced, if 0 < p.bs.length then p.pg + 1 else p.pg, ep2⟩
end Go.Proofs.Ytjfpanamkkdebaa
