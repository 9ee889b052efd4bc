/- The library's Chunk: what it hands to a loop. -/
import Derived.RangeFuncBox
import Derived.RangeFuncNested
import Derived.RangeFuncLeaves
import Derived.Shelf.Abstract
import Derived.WalkKit
import Derived.OwnWalkIn
import Derived.TacticsInMore
import Derived.LoopNIn
import Derived.LoopIn
import Derived.Test.YtbeejmedekgjjaaPoD
import Derived.BigQuiet
import Derived.Deep.QuietTactic
namespace Go.Proofs.Ytbeejmedekgjjaa
open Go.RowKit Go.Shelf
set_option linter.unusedVariables false
set_option linter.unusedSimpArgs false
attribute [local go_sem] Oper.semAt_some
/-- How long the chunk that begins at i is. -/
def chunkLen (n i : Nat) : Nat := min 4 (n - i)
/-- The chunks of n, by where they begin. -/
abbrev Chunk (n : Nat) := { i : Nat // i < n }
def chunkV (a : Addr) (n i : Nat) : Value := .slice (some (a.add (i * 2))) (chunkLen n i) (chunkLen n i)
/-- The first k chunks. -/
def firstChunks (n : Nat) : (k : Nat) → (4 * k < n + 4) → List (Chunk n)
  | 0, _ => []
  | k + 1, h => firstChunks n k (by omega) ++ [⟨4 * k, by omega⟩]
theorem firstChunks_length (n : Nat) : ∀ k h, (firstChunks n k h).length = k
  | 0, _ => rfl
  | k + 1, h => by rw [firstChunks, List.length_append, firstChunks_length]; rfl
/-- The two boxes that the closure reads lie as they lay. -/
def Held2 (Bs Bn : Nat) (W W' : World) : Prop := W'.heap[Bs]? = W.heap[Bs]? ∧ W'.heap[Bn]? = W.heap[Bn]?
theorem Held2.refl (Bs Bn : Nat) (W : World) : Held2 Bs Bn W W := ⟨rfl, rfl⟩
theorem Held2.trans {Bs Bn : Nat} {A B C : World} (h : Held2 Bs Bn A B) (k : Held2 Bs Bn B C) : Held2 Bs Bn A C := ⟨k.1.trans h.1, k.2.trans h.2⟩
theorem cell_heap {W W' : World} {B : Nat} (h : W'.heap[B]? = W.heap[B]?) : W'.cell? ⟨B, 0, none⟩ = W.cell? ⟨B, 0, none⟩ := by simp [World.cell?, h]
theorem held2_b {Bs Bn : Nat} {w : World} (hs : Bs < w.heap.size) (hn : Bn < w.heap.size) (W : World) (l : Nat) (o o' : Obj) (hl : w.heap.size ≤ l) (_ : W.heap[l]? = some o) (_ : o.isCells = false) (_ : o.isWalk = false) : Held2 Bs Bn W (W.putObj l o') :=
  ⟨World.putObj_heap_other (by omega), World.putObj_heap_other (by omega)⟩
set_option maxHeartbeats 1000000 in
theorem chunk_in (n : Nat) (a : Option Addr) (len cap : Nat) (w : World) :
    CallsIn Fence.wide n Try.prog 21 #[.slice a len cap, .int .i64 4] w fun e w' => e = .returned (.func (.func 42) #[] #[.pointer (some ⟨w.heap.size, 0, none⟩), .pointer (some ⟨w.heap.size + 1, 0, none⟩)]) ∧ w' = (w.alloc (.cells #[.slice a len cap] 22)).alloc (.cells #[.int .i64 4] 3) := by
  refine callsIn_of_wp Try.func21 rfl trivial ?_ rfl
  simp only [Try.ntmps21, List.size_toArray, List.length_cons, List.length_nil, Nat.reduceAdd, Nat.reduceSub, Array.replicate_succ, Array.replicate_zero, List.push_toArray, List.append_toArray, List.nil_append, List.cons_append]
  gi_wp2
  go_ret
  exact ⟨rfl, rfl⟩
set_option maxRecDepth 100000 in
set_option maxHeartbeats 2000000 in
/-- Chunk's closure: for every loop body. -/
theorem chunk1_in (n : Nat) (hn : 1 ≤ n) (l Bs Bn : Nat) (a : Addr) (len cap : Nat) (hlc : len ≤ cap) (hlen : len ≤ 65536) (B0 : Nat) (J Jx : List (Chunk len) → World → Prop)
    (hY : ∀ pre x W, J pre W → pre.length < len / 4 + 1 → YieldAt Fence.wide (n - 1) Try.prog l #[chunkV a len x.1] W fun e W' =>
      (e = .returned (.bool true) ∧ J (pre ++ [x]) W' ∧ Held2 Bs Bn W W') ∨ (e = .returned (.bool false) ∧ Jx (pre ++ [x]) W'))
    (hJ : AbidesFrom B0 J) (W : World) (hcs : W.cell? ⟨Bs, 0, none⟩ = some (.slice (some a) len cap)) (hcn : W.cell? ⟨Bn, 0, none⟩ = some (.int .i64 4)) (h0 : J [] W) :
    CallsIn Fence.wide n Try.prog 42 #[.func (.yield l) #[] #[], .pointer (some ⟨Bs, 0, none⟩), .pointer (some ⟨Bn, 0, none⟩)] W fun e W' => (∃ v, e = .returned v) ∧
      ((∃ ys, (∃ k h, len ≤ 4 * k ∧ ys = firstChunks len k h) ∧ J ys W') ∨ (∃ pre, True ∧ Jx pre W')) := by
  refine callsIn_of_wp Try.func42 rfl trivial ?_ rfl
  simp only [Try.ntmps42, List.size_toArray, List.length_cons, List.length_nil, Nat.reduceAdd, Nat.reduceSub, Array.replicate_succ, Array.replicate_zero, List.push_toArray, List.append_toArray, List.nil_append, List.cons_append]
  gi_wp2
  gi_loopw [4] (fun s4 wr => ∃ (k i : Nat) (h : 4 * k < len + 4), Hid (i = 4 * k) ∧ s4 = .int .i64 (i : Int) ∧ J (firstChunks len k h) wr ∧ Held2 Bs Bn W wr)
    (fun i _ => len + 4 - (intOf i).toNat)
  case atStart => exact ⟨0, 0, by omega, rfl, rfl, h0, Held2.refl _ _ _⟩
  case round =>
    obtain ⟨k, i, hk, hik, rfl, hJs, hnx⟩ := hrel
    have cs := (cell_heap hnx.1).trans hcs
    have cn := (cell_heap hnx.2).trans hcn
    by_cases hlt : i < len
    · have hk2 : 4 * k < len := by have := hik.out; omega
      obtain ⟨e, he⟩ : ∃ e, e = chunkLen len i := ⟨_, rfl⟩
      have he2 := he
      unfold chunkLen at he2
      have q1 : decide ((i : Int) < (len : Int)) = true := decide_eq_true (by omega)
      have q2 : (0 : Int) ≤ (i : Int) := by omega
      have q3 : (i : Int) ≤ (len : Int) := by omega
      have q4 : (i : Int) ≤ (cap : Int) := by omega
      have q5 : (if (len : Int) - (i : Int) < 4 then (len : Int) - (i : Int) else 4) = (e : Int) := by split <;> omega
      have b1 : (i : Int) ≤ 65536 := by omega
      have b2 : (e : Int) ≤ 4 := by omega
      have b3 : (0 : Int) ≤ (e : Int) := by omega
      have q7 : (i : Int) + (e : Int) ≤ (cap : Int) := by omega
      have q8 : ((i + e : Nat) : Int) = (i : Int) + (e : Int) := by omega
      have q9 : min (4 : Int) ((len - i : Nat) : Int) = (e : Int) := by omega
      have hd : ∀ nq, J (firstChunks len k hk) (wr.drewN nq) ∧ Held2 Bs Bn W (wr.drewN nq) := fun nq => ⟨hJ _ _ _ none hJs ⟨rfl, rfl, rfl, Nat.le_refl _, fun _ _ _ => rfl⟩ (by simp), hnx.trans ⟨rfl, rfl⟩⟩
      have HE := Lib.hid he
      clear he he2
      gi_wp2
      refine wpIn_wide.2 ?_
      go_quiet (fail)
      rename_i nq
      have hd2 := hd nq
      have cs2 : (wr.drewN nq).cell? ⟨Bs, 0, none⟩ = _ := cs
      have cn2 : (wr.drewN nq).cell? ⟨Bn, 0, none⟩ = _ := cn
      generalize wr.drewN nq = w2 at hd2 cs2 cn2 ⊢
      obtain ⟨hJ2, hnx2⟩ := hd2
      obtain ⟨fn, tmps, assign, body, hy, hR⟩ := hY _ ⟨i, hlt⟩ w2 hJ2 (by rw [firstChunks_length]; omega)
      dsimp only at hy
      unfold chunkV at hy
      rw [← HE.out] at hy
      clear hd hJs hnx q9 cs cn
      gi_wp2
      refine hR.mono ?_
      rintro e3 W3 (⟨rfl, hJ3, hk3⟩ | ⟨rfl, hJx3⟩)
      · have cn3 := (cell_heap hk3.2).trans cn2
        gi_wp2
        go_roundw
        case rel => exact ⟨k + 1, i + 4, by omega, by have := hik.out; show _ = _; omega, by simp, by rw [firstChunks]; have := hik.out; subst this; exact hJ3, hnx2.trans hk3⟩
        case measure => simp [intOf]; omega
      · gi_wp2
        refine bodyPost_ret (results_none rfl _ _ _) rfl ?_
        exact ⟨⟨_, rfl⟩, .inr ⟨_, trivial, hJx3⟩⟩
    · have q1 : decide ((i : Int) < (len : Int)) = false := decide_eq_false (by omega)
      have HL : Hid (∃ k' h', len ≤ 4 * k' ∧ firstChunks len k hk = firstChunks len k' h') := ⟨k, hk, by have := hik.out; omega, rfl⟩
      gi_wp2
      go_end0
      exact ⟨⟨_, rfl⟩, .inl ⟨_, HL.out, hJs⟩⟩
/-- .. of no postings: no round. -/
theorem chunk1_nil_in (n : Nat) (l Bs Bn : Nat) (cap : Nat) (a : Option Addr) (J : List (Chunk 0) → World → Prop) (W : World) (hcs : W.cell? ⟨Bs, 0, none⟩ = some (.slice a 0 cap)) (hcn : W.cell? ⟨Bn, 0, none⟩ = some (.int .i64 4)) (h0 : J [] W) :
    CallsIn Fence.wide n Try.prog 42 #[.func (.yield l) #[] #[], .pointer (some ⟨Bs, 0, none⟩), .pointer (some ⟨Bn, 0, none⟩)] W fun e W' => (∃ v, e = .returned v) ∧ J [] W' := by
  refine callsIn_of_wp Try.func42 rfl trivial ?_ rfl
  simp only [Try.ntmps42, List.size_toArray, List.length_cons, List.length_nil, Nat.reduceAdd, Nat.reduceSub, Array.replicate_succ, Array.replicate_zero, List.push_toArray, List.append_toArray, List.nil_append, List.cons_append]
  gi_wp2
  gi_loopw [4] (fun i wr => i = .int .i64 0 ∧ wr = W) (fun _ _ => 0)
  case atStart => exact ⟨rfl, rfl⟩
  case round =>
    obtain ⟨rfl, rfl⟩ := hrel
    gi_wp2
    go_end0
    exact ⟨⟨_, rfl⟩, h0⟩
/-- What a loop over the chunks is handed. -/
theorem chunk_stops (n : Nat) (hn : 1 ≤ n) (Bs Bn : Nat) (A : Option Addr) (len cap : Nat) (hlc : len ≤ cap) (hlen : len ≤ 65536) (hA : A = none → len = 0) (a : Addr) (ha : ∀ b, A = some b → b = a) (w : World) (hBs : Bs < w.heap.size) (hBn : Bn < w.heap.size)
    (hcs : w.cell? ⟨Bs, 0, none⟩ = some (.slice A len cap)) (hcn : w.cell? ⟨Bn, 0, none⟩ = some (.int .i64 4)) :
    SeqStopsK Fence.wide n Try.prog 42 #[.pointer (some ⟨Bs, 0, none⟩), .pointer (some ⟨Bn, 0, none⟩)] (fun x : Chunk len => #[chunkV a len x.1]) (Held2 Bs Bn)
      (fun ys => ∃ k h, len ≤ 4 * k ∧ ys = firstChunks len k h) (fun _ => True) (len / 4 + 1) w := fun l J Jx W hW hJ _ hY h0 => by
  have hcs' := (hW.cell (p := ⟨Bs, 0, none⟩) hBs).trans hcs
  have hcn' := (hW.cell (p := ⟨Bn, 0, none⟩) hBn).trans hcn
  cases A with
  | none =>
    have h0' := hA rfl
    subst h0'
    exact (chunk1_nil_in n l Bs Bn cap none J W hcs' hcn' h0).mono fun e W' ⟨he, hj⟩ => ⟨he, .inl ⟨_, ⟨0, by omega, by omega, rfl⟩, hj⟩⟩
  | some b =>
    obtain rfl := ha b rfl
    exact chunk1_in n hn l Bs Bn b len cap hlc hlen W.heap.size J Jx hY hJ W hcs' hcn' h0
end Go.Proofs.Ytbeejmedekgjjaa
