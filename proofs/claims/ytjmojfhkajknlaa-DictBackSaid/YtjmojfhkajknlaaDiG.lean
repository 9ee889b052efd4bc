/- A dictionary that is there: how many words, the words of a block. -/
import Derived.Test.YtjmojfhkajknlaaDiE
import Derived.Test.YtjmojfhkajknlaaCoH
import Derived.Lib.ConvBytes
import Derived.Lib.SmallJoins
namespace Go.Proofs.Ytjmojfhkajknlaa
open Go.RowKit
set_option linter.unusedVariables false
set_option linter.unusedSimpArgs false
theorem rb_bytes (w : World) (s : ByteArray) : RB (Lib.bytesWorld w 5 s) (some ⟨w.heap.size, 0, none⟩) s.data.toList := by
  intro k v hk
  refine ⟨_, rfl, ?_⟩
  have hks : k < s.size := by
    rcases Nat.lt_or_ge k s.size with h | h
    · exact h
    · rw [List.getElem?_eq_none (by simpa using h)] at hk; cases hk
  rw [Addr.add_lit, Nat.zero_add, Lib.bytesWorld_cell w _ s k hks]
  rw [List.getElem?_map] at hk
  have hg : s.data.toList[k]? = some (s.data.toList.getD k 0) := by
    rw [List.getD_eq_getElem?_getD, List.getElem?_eq_getElem (by rw [Array.length_toList]; exact hks)]; rfl
  rw [hg] at hk
  simp only [Option.map_some, Option.some.injEq] at hk
  rw [← hk]; rfl
/-- A dictionary of these words lies in block g. -/
def DOk (w : World) (g : Nat) (l : List (List UInt8)) : Prop :=
  ∃ A c B d, w.heap[g]? = some (.cells #[.int .i64 l.length, .slice A (nblk l.length) c, .slice B (nblk l.length) d] 51 (0, 0)) ∧ Lies w A ((headsL l).map vs) ∧ Lies w B ((blocksL l).map vs)
theorem DAt.ok {w : World} {g : Nat} {vH vB : Value} {l : List (List UInt8)} (h : DAt w g vH vB l) : DOk w g l := by
  obtain ⟨h1, h2, h3, _⟩ := h
  unfold OS at h2 h3
  obtain ⟨A, c, rfl, _⟩ := own_form h2
  obtain ⟨B, d, rfl, _⟩ := own_form h3
  rw [headsL_length, blocksL_length] at h1
  exact ⟨A, c, B, d, h1, Lies.of_own h2, Lies.of_own h3⟩
theorem DOk.below {w w' : World} {g : Nat} {l : List (List UInt8)} (h : DOk w g l) (hb : Below w.heap.size w w') : DOk w' g l := by
  obtain ⟨A, c, B, d, h1, h2, h3⟩ := h
  exact ⟨A, c, B, d, (hb.block g (blk_lt h1)).trans h1, h2.below hb, h3.below hb⟩
theorem DOk.lt {w : World} {g : Nat} {l : List (List UInt8)} (h : DOk w g l) : g < w.heap.size := by
  obtain ⟨A, c, B, d, h1, h2, h3⟩ := h
  exact blk_lt h1
theorem len_any (g : Nat) (l : List (List UInt8)) (w : World) (h : DOk w g l) :
    Calls Try.prog 12 #[.pointer (some ⟨g, 0, none⟩)] w fun e w' => e = .returned (.int .i64 l.length) ∧ w = w' := by
  obtain ⟨A, c, B, d, h1, h2, h3⟩ := h
  have k0 : w.cell? ⟨g, 0, none⟩ = some (.int .i64 l.length) := blk_cell h1
  clear h1 h2 h3
  go_enter Try.func12, Try.ntmps12
  go_wp2
  go_returns
  exact ⟨rfl, rfl⟩
/-- Texts in a slice, apart from a reader in block gr: still in the block that the literal made, or behind the reader. -/
def OutAt (w : World) (gr S : Nat) (v : Value) (xs : List (List UInt8)) : Prop :=
  (∃ x, xs = [x] ∧ v = .slice (some ⟨S, 0, none⟩) 1 1 ∧ w.cell? ⟨S, 0, none⟩ = some (vs x) ∧ S < gr) ∨ OS w (gr + 1) v xs
theorem OutAt.kept {w w' : World} {gr S : Nat} {v : Value} {xs : List (List UInt8)} (h : OutAt w gr S v xs) (hg : w.grownBy w' (some gr)) : OutAt w' gr S v xs := by
  rcases h with ⟨x, h1, h2, h3, h4⟩ | h
  · exact .inl ⟨x, h1, h2, hg.cell h3 (fun e => by injection e with e; simp only at e; omega), h4⟩
  · refine .inr (World.ownsRow.kept h hg ?_)
    cases e : v.ownBlock with
    | none => exact .inl rfl
    | some k => exact .inr (fun e2 => by have := (World.ownsRow.lt h k e).1; injection e2 with e2; omega)
theorem OutAt.alloc {w : World} {gr S : Nat} {v : Value} {xs : List (List UInt8)} (h : OutAt w gr S v xs) (o : Obj) : OutAt (w.alloc o) gr S v xs := h.kept (World.grownBy_alloc w o _)
theorem OutAt.lies {w : World} {gr S : Nat} {v : Value} {xs : List (List UInt8)} (h : OutAt w gr S v xs) : ∃ A c, v = .slice A xs.length c ∧ Lies w A (xs.map vs) ∧ xs.length ≤ c ∧ (A = none → c = 0) := by
  rcases h with ⟨x, rfl, rfl, h3, h4⟩ | h
  · refine ⟨_, _, rfl, fun k v hk => ?_, Nat.le_refl _, by simp⟩
    match k, hk with
    | 0, hk => simp at hk; subst hk; exact ⟨_, rfl, by rw [Addr.add_zero']; exact h3⟩
  · unfold OS at h
    obtain ⟨A, c, rfl, hc⟩ := own_form h
    refine ⟨A, c, rfl, Lies.of_own h, hc, fun e => ?_⟩
    rcases h.2 with ⟨hv, h0⟩ | ⟨g, cap, cur, hv, _⟩
    · injection hv with _ _ e3
    · subst e; injection hv with e1; cases e1
section
variable {w : World}
theorem wpList_out {ops : Array Oper} {rest : List Oper} {o : Oper} {a : Act} {Q : Exit → Act → World → Prop} (hgd : o.guard = none) (s x : Operand)
    (ho : o.op = .call { callee := .builtin .append, args := #[s, x], argTypes := #[22, 22] })
    (gr S : Nat) (v : Value) (xs : List (List UInt8)) (hs : a.eval s = v) (hout : OutAt w gr S v xs)
    (ad : Addr) (u : List UInt8) (hx : a.eval x = .slice (some ad) 1 1) (hu : w.cell? ad = some (vs u))
    (h63 : xs.length + 1 ≤ 100000) (hbase : gr + 1 ≤ w.heap.size)
    (h : ∀ v' w' row, OS w' (gr + 1) v' (xs ++ [u]) → w.grownBy w' row → (∀ k, row = some k → gr < k) → wpList Try.prog ops Q rest (a.put o.dst v') w') : wpList Try.prog ops Q (o :: rest) a w := by
  have HML : maxLen = 9223372036854775807 := rfl
  rcases hout with ⟨x0, rfl, rfl, h3, h4⟩ | hout
  · refine wpList_app_new (P := Try.prog) w hgd s x 22 ho (gr + 1) 9 _ 1 16 Try.underlying22 info_str rfl (by decide) (some ⟨S, 0, none⟩) 1 1 [vs x0] hs rfl (by simp) rfl ?_ ad 1 1 [vs u] hx (by decide) rfl ?_ (by intro q hq; cases List.mem_singleton.1 hq; rfl) (by rw [HML]; decide) (by decide) hbase ?_
    · intro k v hk
      match k, hk with
      | 0, hk => simp at hk; subst hk; exact ⟨_, rfl, by rw [Addr.add_zero']; exact h3⟩
    · intro k v hk
      match k, hk with
      | 0, hk => simp at hk; subst hk; exact ⟨_, rfl, by rw [Addr.add_zero']; exact hu⟩
    · intro v' w' hown hg _
      exact h v' w' none hown hg (fun k hk => by cases hk)
  · refine wpList_one (P := Try.prog) hgd s x 22 ho (gr + 1) 9 _ 16 Try.underlying22 info_str rfl v xs.length (xs.map vs) hs hout ad (vs u) hx hu rfl (by rw [HML]; omega) (by omega) hbase ?_
    intro g cap w' hown hg _ _
    refine h _ w' _ ?_ hg (fun k hk => (World.ownsRow.lt hout k hk).1)
    unfold OS
    rw [List.length_append, List.map_append]
    exact hown
end
end Go.Proofs.Ytjmojfhkajknlaa
