/- A device in memory; its small calls. -/
import Derived.Test.YtjfpanamkkdebaaPgA
import Derived.Test.YtjfpanamkkdebaaPgM
import Derived.WalkLawsBesides
import Derived.WalkSpells
import Derived.Outline
import Derived.LoopTactic
import Derived.Lib.Hide
import Derived.Deep.LoopGhost
import Derived.Handy
import Derived.BigRegion
import Derived.BigQuiet
import Derived.Deep.QuietTactic
namespace Go.Proofs.Ytjfpanamkkdebaa
open Go.RowKit
set_option linter.unusedVariables false
set_option maxRecDepth 100000
set_option linter.unusedSimpArgs false
/-- w' is w but for these blocks, and new ones. -/
structure Only (w w' : World) (S : List Nat) : Prop where
  os : w'.os = w.os
  tape : w'.tape = w.tape
  output : w'.output = w.output
  size : w.heap.size ≤ w'.heap.size
  block : ∀ i, i < w.heap.size → i ∉ S → w'.heap[i]? = w.heap[i]?
theorem Only.refl (w : World) (S : List Nat) : Only w w S := ⟨rfl, rfl, rfl, Nat.le_refl _, fun _ _ _ => rfl⟩
theorem Only.trans {a b c : World} {S : List Nat} (h : Only a b S) (k : Only b c S) : Only a c S :=
  ⟨k.os.trans h.os, k.tape.trans h.tape, k.output.trans h.output, Nat.le_trans h.size k.size, fun i hi hn => (k.block i (Nat.lt_of_lt_of_le hi h.size) hn).trans (h.block i hi hn)⟩
theorem Only.mono {a b : World} {S T : List Nat} (h : Only a b S) (hs : ∀ i ∈ S, i ∈ T) : Only a b T := ⟨h.os, h.tape, h.output, h.size, fun i hi hn => h.block i hi (fun e => hn (hs i e))⟩
theorem Only.of_grown {a b : World} {r : Nat} (h : a.grownBy b (some r)) : Only a b [r] := ⟨h.os, h.tape, h.output, h.size, fun i hi hn => h.block i hi (fun e => hn (by injection e with e; rw [e]; exact List.mem_singleton.2 rfl))⟩
theorem Only.of_below {a b : World} (h : Below a.heap.size a b) (S : List Nat) : Only a b S := ⟨h.os, h.tape, h.output, h.size, fun i hi _ => h.block i hi⟩
theorem Only.grown {a b : World} {r : Nat} (h : Only a b [r]) : a.grownBy b (some r) := ⟨h.os, h.tape, h.output, h.size, fun i hi hn => h.block i hi (fun e => hn (by rw [List.mem_singleton.1 e]))⟩
theorem Only.below {a b : World} {S : List Nat} {B : Nat} (h : Only a b S) (hs : ∀ i ∈ S, B ≤ i) (hB : B ≤ a.heap.size) : Below B a b :=
  ⟨h.os, h.tape, h.output, h.size, fun i hi => h.block i (Nat.lt_of_lt_of_le hi hB) (fun e => by have := hs i e; omega)⟩
theorem Only.alike {a b c : World} {S : List Nat} (h : Only a b S) (e : Below b.heap.size b c) : Only a c S := h.trans (.of_below e S)
theorem info_str : (Try.prog.info? 9).map (fun i => (i.zero, i.size, i.bytes)) = some (some (.string ByteArray.empty), 1, 16) := by kernel_rfl
/-- A text as the cell that holds it. -/
def vs (x : List UInt8) : Value := .string (str x)
theorem own_block {w w' : World} {base k n c : Nat} {e : TypeId} {size : Nat} {xs : List Value} (h : w.ownsRow base e size (.slice (some ⟨k, 0, none⟩) n c) n xs) (hb : w'.heap[k]? = w.heap[k]?) : w'.ownsRow base e size (.slice (some ⟨k, 0, none⟩) n c) n xs := by
  refine ⟨h.1, ?_⟩
  rcases h.2 with hn | ⟨g, cap, cur, hv, h1, h2, h3⟩
  · exact .inl hn
  · injection hv with e1 _ e3
    injection e1 with e1
    injection e1 with e1
    subst e1
    exact .inr ⟨_, cap, cur, by rw [e3], h1, hb.trans h2, h3⟩
theorem MapIs.block {w w' : World} {b N : Nat} {L : Nat → Option (List UInt8)} (h : MapIs w b N L) (hb : w'.heap[b]? = w.heap[b]?) : MapIs w' b N L := by
  obtain ⟨D, ⟨es, clock, h1, r⟩, h2⟩ := h
  exact ⟨D, ⟨es, clock, hb.trans h1, r⟩, h2⟩
/-- A device in memory: in block g, its pages in block k, those that were written in the map m. -/
structure DkAt (w : World) (g k m c : Nat) (d : Dsk) : Prop where
  blk : w.heap[g]? = some (.cells #[.bool d.bound, .int .i64 d.left, .bool d.dead, .slice (some ⟨k, 0, none⟩) d.kept.length c, .map (some m)] 81 (0, 0))
  row : w.ownsRow 0 9 1 (.slice (some ⟨k, 0, none⟩) d.kept.length c) d.kept.length (d.kept.map vs)
  map : MapIs w m d.kept.length d.loose
  ok : d.Ok
  gk : g ≠ k
  gm : g ≠ m
  km : k ≠ m
theorem DkAt.lt {w : World} {g k m c : Nat} {d : Dsk} (h : DkAt w g k m c d) : g < w.heap.size ∧ k < w.heap.size ∧ m < w.heap.size :=
  ⟨blk_lt h.blk, (World.ownsRow.lt h.row k rfl).2, h.map.lt⟩
theorem DkAt.only {w w' : World} {g k m c : Nat} {d : Dsk} {S : List Nat} (h : DkAt w g k m c d) (ho : Only w w' S) (hg : g ∉ S) (hk : k ∉ S) (hm : m ∉ S) : DkAt w' g k m c d := by
  obtain ⟨l1, l2, l3⟩ := h.lt
  refine ⟨(ho.block g l1 hg).trans h.blk, ?_, ?_, h.ok, h.gk, h.gm, h.km⟩
  · exact own_block h.row (ho.block k l2 hk)
  · exact h.map.block (ho.block m l3 hm)
theorem DkAt.below {w w' : World} {g k m c : Nat} {d : Dsk} (h : DkAt w g k m c d) (hb : Below w.heap.size w w') : DkAt w' g k m c d :=
  h.only (.of_below hb []) List.not_mem_nil List.not_mem_nil List.not_mem_nil
theorem DkAt.c0 {w : World} {g k m c : Nat} {d : Dsk} (h : DkAt w g k m c d) : w.cell? ⟨g, 0, none⟩ = some (.bool d.bound) := blk_cell h.blk
theorem DkAt.c1 {w : World} {g k m c : Nat} {d : Dsk} (h : DkAt w g k m c d) : w.cell? ⟨g, 1, none⟩ = some (.int .i64 d.left) := blk_cell h.blk
theorem DkAt.c2 {w : World} {g k m c : Nat} {d : Dsk} (h : DkAt w g k m c d) : w.cell? ⟨g, 2, none⟩ = some (.bool d.dead) := blk_cell h.blk
theorem DkAt.c3 {w : World} {g k m c : Nat} {d : Dsk} (h : DkAt w g k m c d) : w.cell? ⟨g, 3, none⟩ = some (.slice (some ⟨k, 0, none⟩) d.kept.length c) := blk_cell h.blk
theorem DkAt.c4 {w : World} {g k m c : Nat} {d : Dsk} (h : DkAt w g k m c d) : w.cell? ⟨g, 4, none⟩ = some (.map (some m)) := blk_cell h.blk
theorem DkAt.f {w : World} {g k m c : Nat} {d : Dsk} (h : DkAt w g k m c d) (i : Nat) : w.frozen? ⟨g, i, none⟩ = false := blk_free h.blk
theorem size_any (g k m c : Nat) (d : Dsk) (w : World) (h : DkAt w g k m c d) :
    Calls Try.prog 11 #[.pointer (some ⟨g, 0, none⟩)] w fun e w' => e = .returned (.int .i64 d.kept.length) ∧ w = w' := by
  have k3 := h.c3
  clear h
  go_enter Try.func11, Try.ntmps11
  go_wp2
  go_returns
  exact ⟨rfl, rfl⟩
theorem ask_any (g k m c : Nat) (d : Dsk) (i : Int) (w : World) (h : DkAt w g k m c d) :
    Calls Try.prog 32 #[.pointer (some ⟨g, 0, none⟩), .int .i64 i] w fun e w' => e = .returned (.int .i64 (d.askE i)) ∧ w = w' := by
  have HS := Lib.hid (size_any g k m c d w h)
  have h0 := h.ok.pos
  have hq : ((d.kept.length : Int) == 0) = false := by rw [beq_eq_false_iff_ne]; omega
  have HE : Hid (d.askE i = if 0 ≤ i ∧ i < d.kept.length then 0 else 1) := rfl
  clear h
  generalize d.kept.length = n at HS h0 hq HE
  generalize d.askE i = e at HE ⊢
  by_cases h1 : i < 0
  · have hq1 : decide (i < 0) = true := decide_eq_true h1
    go_enter Try.func32, Try.ntmps32
    go_wp2_with (go_at_call 11; refine HS.out.mono ?_; rintro e w' ⟨rfl, rfl⟩)
    go_returns
    exact ⟨by rw [HE.out, if_neg (by omega)]; rfl, rfl⟩
  · have hq1 : decide (i < 0) = false := decide_eq_false h1
    by_cases h2 : i < (n : Int)
    · have hq2 : decide (i ≥ (n : Int)) = false := decide_eq_false (by omega)
      have hq3 : decide ((n : Int) ≤ i) = false := decide_eq_false (by omega)
      go_enter Try.func32, Try.ntmps32
      go_wp2_with (go_at_call 11; refine HS.out.mono ?_; rintro e w' ⟨rfl, rfl⟩)
      go_returns
      exact ⟨by rw [HE.out, if_pos (by omega)]; rfl, rfl⟩
    · have hq2 : decide (i ≥ (n : Int)) = true := decide_eq_true (by omega)
      have hq3 : decide ((n : Int) ≤ i) = true := decide_eq_true (by omega)
      go_enter Try.func32, Try.ntmps32
      go_wp2_with (go_at_call 11; refine HS.out.mono ?_; rintro e w' ⟨rfl, rfl⟩)
      go_returns
      exact ⟨by rw [HE.out, if_neg (by omega)]; rfl, rfl⟩
theorem dead_any (g k m c : Nat) (d : Dsk) (w : World) (h : DkAt w g k m c d) :
    Calls Try.prog 35 #[.pointer (some ⟨g, 0, none⟩)] w fun e w' => e = .returned (.bool d.dead) ∧ w = w' := by
  have HS := Lib.hid (size_any g k m c d w h)
  have h0 := h.ok.pos
  have k2 := h.c2
  have hq : decide ((d.kept.length : Int) > 0) = true := decide_eq_true (by omega)
  have hq2 : decide (0 < d.kept.length) = true := decide_eq_true h0
  clear h
  go_enter Try.func35, Try.ntmps35
  go_wp2_with (go_at_call 11; refine HS.out.mono ?_; rintro e w' ⟨rfl, rfl⟩)
  go_returns
  exact ⟨rfl, rfl⟩
theorem now_any (g k m c : Nat) (d : Dsk) (i : Nat) (w : World) (h : DkAt w g k m c d) (hi : i < d.kept.length) :
    Calls Try.prog 77 #[.pointer (some ⟨g, 0, none⟩), .int .i64 i] w fun e w' => e = .returned (.string (str (d.now i))) ∧ w = w' := by
  have k3 := h.c3
  have k4 := h.c4
  have hm := h.ok.most
  have hl := h.map.look (by omega) i hi
  have hk := World.ownsRow.cellAt h.row i (by omega)
  rw [List.getElem?_map, List.getElem?_eq_getElem hi] at hk
  have HN : Hid (d.now i = match d.loose i with | some s => s | none => d.kept.getD i []) := rfl
  have hg : d.kept.getD i [] = d.kept[i] := by rw [List.getD_eq_getElem?_getD, List.getElem?_eq_getElem hi]; rfl
  rw [hg] at HN
  clear h hg
  generalize d.kept[i] = x at hk HN
  generalize d.now i = y at HN ⊢
  simp only [Option.map_some] at hk
  unfold vs at hk
  have hi0 : (0 : Int) ≤ (i : Int) := by omega
  have hi1 : (i : Int) < (d.kept.length : Int) := by omega
  cases e : d.loose i with
  | none =>
    rw [e] at hl HN
    simp only [Option.isSome_none, Option.getD_none] at hl
    go_enter Try.func77, Try.ntmps77
    go_wp2
    go_returns
    exact ⟨by rw [HN.out]; rfl, rfl⟩
  | some s =>
    rw [e] at hl HN
    simp only [Option.isSome_some, Option.getD_some] at hl
    go_enter Try.func77, Try.ntmps77
    go_wp2
    go_returns
    exact ⟨by rw [HN.out]; rfl, rfl⟩
end Go.Proofs.Ytjfpanamkkdebaa
