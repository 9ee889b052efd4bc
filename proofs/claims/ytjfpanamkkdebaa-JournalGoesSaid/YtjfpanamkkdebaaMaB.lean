/- A device in memory; its small calls.
   A page's bytes, an act, a fuse: the walks.
   An act, a fuse, reading and writing a page: the walks.
   Reading and writing a page: the walks.
   A sync: the walk.
   The pages that were written since: the walk.
   Contains; what a crash makes of the pages, one by one. -/
import Derived.Test.YtjfpanamkkdebaaMaA
import Derived.WalkLawsBesides
import Derived.WalkSpells
import Derived.Outline
import Derived.LoopTactic
import Derived.Lib.Hide
import Derived.Deep.LoopGhost
import Derived.Handy
import Derived.BigRegion
import Derived.BigQuiet
import Derived.Deep.QuietTactic
import Derived.Lib.BufferWrite
import Derived.Lib.BufferOwn
import Derived.Deep.RegionLaw
import Derived.Maps.RangeWalk
namespace Go.Proofs.Ytjfpanamkkdebaa
open Go.RowKit
set_option linter.unusedVariables false
set_option maxRecDepth 100000
set_option linter.unusedSimpArgs false
/-- w' is w but for these blocks, and new ones. -/
structure Only (w w' : World) (S : List Nat) : Prop where
  os : w'.os = w.os
  tape : w'.tape = w.tape
  output : w'.output = w.output
  size : w.heap.size ≤ w'.heap.size
  block : ∀ i, i < w.heap.size → i ∉ S → w'.heap[i]? = w.heap[i]?
theorem Only.refl (w : World) (S : List Nat) : Only w w S := ⟨rfl, rfl, rfl, Nat.le_refl _, fun _ _ _ => rfl⟩
theorem Only.trans {a b c : World} {S : List Nat} (h : Only a b S) (k : Only b c S) : Only a c S :=
  ⟨k.os.trans h.os, k.tape.trans h.tape, k.output.trans h.output, Nat.le_trans h.size k.size, fun i hi hn => (k.block i (Nat.lt_of_lt_of_le hi h.size) hn).trans (h.block i hi hn)⟩
theorem Only.mono {a b : World} {S T : List Nat} (h : Only a b S) (hs : ∀ i ∈ S, i ∈ T) : Only a b T := ⟨h.os, h.tape, h.output, h.size, fun i hi hn => h.block i hi (fun e => hn (hs i e))⟩
theorem Only.of_grown {a b : World} {r : Nat} (h : a.grownBy b (some r)) : Only a b [r] := ⟨h.os, h.tape, h.output, h.size, fun i hi hn => h.block i hi (fun e => hn (by injection e with e; rw [e]; exact List.mem_singleton.2 rfl))⟩
theorem Only.of_below {a b : World} (h : Below a.heap.size a b) (S : List Nat) : Only a b S := ⟨h.os, h.tape, h.output, h.size, fun i hi _ => h.block i hi⟩
theorem Only.grown {a b : World} {r : Nat} (h : Only a b [r]) : a.grownBy b (some r) := ⟨h.os, h.tape, h.output, h.size, fun i hi hn => h.block i hi (fun e => hn (by rw [List.mem_singleton.1 e]))⟩
theorem Only.below {a b : World} {S : List Nat} {B : Nat} (h : Only a b S) (hs : ∀ i ∈ S, B ≤ i) (hB : B ≤ a.heap.size) : Below B a b :=
  ⟨h.os, h.tape, h.output, h.size, fun i hi => h.block i (Nat.lt_of_lt_of_le hi hB) (fun e => by have := hs i e; omega)⟩
theorem Only.alike {a b c : World} {S : List Nat} (h : Only a b S) (e : Below b.heap.size b c) : Only a c S := h.trans (.of_below e S)
theorem info_str : (Try.prog.info? 9).map (fun i => (i.zero, i.size, i.bytes)) = some (some (.string ByteArray.empty), 1, 16) := by kernel_rfl
/-- A text as the cell that holds it. -/
def vs (x : List UInt8) : Value := .string (str x)
theorem own_block {w w' : World} {base k n c : Nat} {e : TypeId} {size : Nat} {xs : List Value} (h : w.ownsRow base e size (.slice (some ⟨k, 0, none⟩) n c) n xs) (hb : w'.heap[k]? = w.heap[k]?) : w'.ownsRow base e size (.slice (some ⟨k, 0, none⟩) n c) n xs := by
  refine ⟨h.1, ?_⟩
  rcases h.2 with hn | ⟨g, cap, cur, hv, h1, h2, h3⟩
  · exact .inl hn
  · injection hv with e1 _ e3
    injection e1 with e1
    injection e1 with e1
    subst e1
    exact .inr ⟨_, cap, cur, by rw [e3], h1, hb.trans h2, h3⟩
theorem MapIs.block {w w' : World} {b N : Nat} {L : Nat → Option (List UInt8)} (h : MapIs w b N L) (hb : w'.heap[b]? = w.heap[b]?) : MapIs w' b N L := by
  obtain ⟨D, ⟨es, clock, h1, r⟩, h2⟩ := h
  exact ⟨D, ⟨es, clock, hb.trans h1, r⟩, h2⟩
/-- A device in memory: in block g, its pages in block k, those that were written in the map m. -/
structure DkAt (w : World) (g k m c : Nat) (d : Dsk) : Prop where
  blk : w.heap[g]? = some (.cells #[.bool d.bound, .int .i64 d.left, .bool d.dead, .slice (some ⟨k, 0, none⟩) d.kept.length c, .map (some m)] 81 (0, 0))
  row : w.ownsRow 0 9 1 (.slice (some ⟨k, 0, none⟩) d.kept.length c) d.kept.length (d.kept.map vs)
  map : MapIs w m d.kept.length d.loose
  ok : d.Ok
  gk : g ≠ k
  gm : g ≠ m
  km : k ≠ m
theorem DkAt.lt {w : World} {g k m c : Nat} {d : Dsk} (h : DkAt w g k m c d) : g < w.heap.size ∧ k < w.heap.size ∧ m < w.heap.size :=
  ⟨blk_lt h.blk, (World.ownsRow.lt h.row k rfl).2, h.map.lt⟩
theorem DkAt.only {w w' : World} {g k m c : Nat} {d : Dsk} {S : List Nat} (h : DkAt w g k m c d) (ho : Only w w' S) (hg : g ∉ S) (hk : k ∉ S) (hm : m ∉ S) : DkAt w' g k m c d := by
  obtain ⟨l1, l2, l3⟩ := h.lt
  refine ⟨(ho.block g l1 hg).trans h.blk, ?_, ?_, h.ok, h.gk, h.gm, h.km⟩
  · exact own_block h.row (ho.block k l2 hk)
  · exact h.map.block (ho.block m l3 hm)
theorem DkAt.below {w w' : World} {g k m c : Nat} {d : Dsk} (h : DkAt w g k m c d) (hb : Below w.heap.size w w') : DkAt w' g k m c d :=
  h.only (.of_below hb []) List.not_mem_nil List.not_mem_nil List.not_mem_nil
theorem DkAt.c0 {w : World} {g k m c : Nat} {d : Dsk} (h : DkAt w g k m c d) : w.cell? ⟨g, 0, none⟩ = some (.bool d.bound) := blk_cell h.blk
theorem DkAt.c1 {w : World} {g k m c : Nat} {d : Dsk} (h : DkAt w g k m c d) : w.cell? ⟨g, 1, none⟩ = some (.int .i64 d.left) := blk_cell h.blk
theorem DkAt.c2 {w : World} {g k m c : Nat} {d : Dsk} (h : DkAt w g k m c d) : w.cell? ⟨g, 2, none⟩ = some (.bool d.dead) := blk_cell h.blk
theorem DkAt.c3 {w : World} {g k m c : Nat} {d : Dsk} (h : DkAt w g k m c d) : w.cell? ⟨g, 3, none⟩ = some (.slice (some ⟨k, 0, none⟩) d.kept.length c) := blk_cell h.blk
theorem DkAt.c4 {w : World} {g k m c : Nat} {d : Dsk} (h : DkAt w g k m c d) : w.cell? ⟨g, 4, none⟩ = some (.map (some m)) := blk_cell h.blk
theorem DkAt.f {w : World} {g k m c : Nat} {d : Dsk} (h : DkAt w g k m c d) (i : Nat) : w.frozen? ⟨g, i, none⟩ = false := blk_free h.blk
theorem size_any (g k m c : Nat) (d : Dsk) (w : World) (h : DkAt w g k m c d) :
    Calls Try.prog 11 #[.pointer (some ⟨g, 0, none⟩)] w fun e w' => e = .returned (.int .i64 d.kept.length) ∧ w = w' := by
  have k3 := h.c3
  clear h
  go_enter Try.func11, Try.ntmps11
  go_wp2
  go_returns
  exact ⟨rfl, rfl⟩
theorem ask_any (g k m c : Nat) (d : Dsk) (i : Int) (w : World) (h : DkAt w g k m c d) :
    Calls Try.prog 32 #[.pointer (some ⟨g, 0, none⟩), .int .i64 i] w fun e w' => e = .returned (.int .i64 (d.askE i)) ∧ w = w' := by
  have HS := Lib.hid (size_any g k m c d w h)
  have h0 := h.ok.pos
  have hq : ((d.kept.length : Int) == 0) = false := by rw [beq_eq_false_iff_ne]; omega
  have HE : Hid (d.askE i = if 0 ≤ i ∧ i < d.kept.length then 0 else 1) := rfl
  clear h
  generalize d.kept.length = n at HS h0 hq HE
  generalize d.askE i = e at HE ⊢
  by_cases h1 : i < 0
  · have hq1 : decide (i < 0) = true := decide_eq_true h1
    go_enter Try.func32, Try.ntmps32
    go_wp2_with (go_at_call 11; refine HS.out.mono ?_; rintro e w' ⟨rfl, rfl⟩)
    go_returns
    exact ⟨by rw [HE.out, if_neg (by omega)]; rfl, rfl⟩
  · have hq1 : decide (i < 0) = false := decide_eq_false h1
    by_cases h2 : i < (n : Int)
    · have hq2 : decide (i ≥ (n : Int)) = false := decide_eq_false (by omega)
      have hq3 : decide ((n : Int) ≤ i) = false := decide_eq_false (by omega)
      go_enter Try.func32, Try.ntmps32
      go_wp2_with (go_at_call 11; refine HS.out.mono ?_; rintro e w' ⟨rfl, rfl⟩)
      go_returns
      exact ⟨by rw [HE.out, if_pos (by omega)]; rfl, rfl⟩
    · have hq2 : decide (i ≥ (n : Int)) = true := decide_eq_true (by omega)
      have hq3 : decide ((n : Int) ≤ i) = true := decide_eq_true (by omega)
      go_enter Try.func32, Try.ntmps32
      go_wp2_with (go_at_call 11; refine HS.out.mono ?_; rintro e w' ⟨rfl, rfl⟩)
      go_returns
      exact ⟨by rw [HE.out, if_neg (by omega)]; rfl, rfl⟩
theorem dead_any (g k m c : Nat) (d : Dsk) (w : World) (h : DkAt w g k m c d) :
    Calls Try.prog 35 #[.pointer (some ⟨g, 0, none⟩)] w fun e w' => e = .returned (.bool d.dead) ∧ w = w' := by
  have HS := Lib.hid (size_any g k m c d w h)
  have h0 := h.ok.pos
  have k2 := h.c2
  have hq : decide ((d.kept.length : Int) > 0) = true := decide_eq_true (by omega)
  have hq2 : decide (0 < d.kept.length) = true := decide_eq_true h0
  clear h
  go_enter Try.func35, Try.ntmps35
  go_wp2_with (go_at_call 11; refine HS.out.mono ?_; rintro e w' ⟨rfl, rfl⟩)
  go_returns
  exact ⟨rfl, rfl⟩
theorem now_any (g k m c : Nat) (d : Dsk) (i : Nat) (w : World) (h : DkAt w g k m c d) (hi : i < d.kept.length) :
    Calls Try.prog 77 #[.pointer (some ⟨g, 0, none⟩), .int .i64 i] w fun e w' => e = .returned (.string (str (d.now i))) ∧ w = w' := by
  have k3 := h.c3
  have k4 := h.c4
  have hm := h.ok.most
  have hl := h.map.look (by omega) i hi
  have hk := World.ownsRow.cellAt h.row i (by omega)
  rw [List.getElem?_map, List.getElem?_eq_getElem hi] at hk
  have HN : Hid (d.now i = match d.loose i with | some s => s | none => d.kept.getD i []) := rfl
  have hg : d.kept.getD i [] = d.kept[i] := by rw [List.getD_eq_getElem?_getD, List.getElem?_eq_getElem hi]; rfl
  rw [hg] at HN
  clear h hg
  generalize d.kept[i] = x at hk HN
  generalize d.now i = y at HN ⊢
  simp only [Option.map_some] at hk
  unfold vs at hk
  have hi0 : (0 : Int) ≤ (i : Int) := by omega
  have hi1 : (i : Int) < (d.kept.length : Int) := by omega
  cases e : d.loose i with
  | none =>
    rw [e] at hl HN
    simp only [Option.isSome_none, Option.getD_none] at hl
    go_enter Try.func77, Try.ntmps77
    go_wp2
    go_returns
    exact ⟨by rw [HN.out]; rfl, rfl⟩
  | some s =>
    rw [e] at hl HN
    simp only [Option.isSome_some, Option.getD_some] at hl
    go_enter Try.func77, Try.ntmps77
    go_wp2
    go_returns
    exact ⟨by rw [HN.out]; rfl, rfl⟩
end Go.Proofs.Ytjfpanamkkdebaa
namespace Go.Proofs.Ytjfpanamkkdebaa
open Go.RowKit
set_option linter.unusedVariables false
set_option maxRecDepth 100000
set_option linter.unusedSimpArgs false
section
variable {P : Program} (w : World)
/-- copy(b, s), b a row of the call's own that holds as many bytes. -/
theorem wpList_copy_str {ops : Array Oper} {rest : List Oper} {o : Oper} {a : Act} {Q : Exit → Act → World → Prop} (hgd : o.guard = none) (d s : Operand) (dT sT : TypeId)
    (ho : o.op = .call { callee := .builtin .copy, args := #[d, s], argTypes := #[dT, sT] }) (base : Nat) (e : TypeId) (hu : P.underlying dT = some (.slice e)) (hsz : (P.info? e).map (·.size) = some 1)
    (g n c : Nat) (xs : List Value) (hd : a.eval d = .slice (some ⟨g, 0, none⟩) n c) (hown : w.ownsRow base e 1 (.slice (some ⟨g, 0, none⟩) n c) n xs) (t : ByteArray) (hs : a.eval s = .string t) (hle : t.size ≤ n)
    (h : ∀ w', w'.ownsRow base e 1 (.slice (some ⟨g, 0, none⟩) n c) n (Lib.byteCells t.data.toList ++ xs.drop t.size) → w.grownBy w' (some g) → wpList P ops Q rest (a.put o.dst (goInt t.size)) w') : wpList P ops Q (o :: rest) a w := by
  rcases hown.2 with ⟨hv, _⟩ | ⟨g', cap, cur, hv, h1, h2, h3, h4, h5, h6⟩
  · injection hv with e1; cases e1
  · injection hv with e1 _ e3
    injection e1 with e1
    injection e1 with e1
    subst e1
    subst e3
    have hl : (Lib.byteCells t.data.toList).length = t.size := by rw [Lib.byteCells_length, ← Lib.size_eq]
    have hxl := hown.1
    have hrun := Lib.run_copy_row_string (P := P) w dT sT o.type e g 0 n c t cur e hu hsz h2 hle (by omega)
    simp only [List.take_zero, List.nil_append, Nat.zero_add] at hrun
    refine wpList_plain hgd fun K hK => ?_
    unfold Oper.wp
    simp only [execOp, ho, resolve, invoke, builtin, Sem.run_bind, Sem.run_pure, Result.andThen_ok, List.map_toArray, List.map_cons, List.map_nil, hd, hs, hrun]
    refine hK _ _ (h _ ⟨by rw [List.length_append, hl, List.length_drop]; omega, .inr ⟨g, c, (Lib.byteCells t.data.toList ++ cur.toList.drop t.size).toArray, rfl, h1, ?_, h3, h4, ?_, ?_⟩⟩ ⟨rfl, rfl, rfl, ?_, fun k hk hne => setRow_other w g k _ (fun e => hne (by rw [e]))⟩)
    · simp [World.setRow, Array.getElem?_modify, h2]
    · have hcl : cur.toList.length = c := by rw [Array.length_toList]; omega
      rw [List.size_toArray, List.length_append, hl, List.length_drop, hcl]; omega
    · simp only [Nat.mul_one] at h6 ⊢
      rw [← h6, List.take_append, hl, List.take_of_length_le (by omega), List.drop_take]
    · simp [World.setRow]
end
theorem bc_map (bs : List UInt8) : Lib.byteCells bs = bs.map vb := rfl
set_option maxHeartbeats 800000 in
theorem full_any (s : List UInt8) (w : World) (hs : s.length ≤ 128) :
    Calls Try.prog 34 #[.string (str s)] w fun e w' => ∃ v, e = .returned v ∧ OB w' w.heap.size v (pad s) ∧ Below w.heap.size w w' := by
  have HML : Hid (maxLen = 9223372036854775807) := rfl
  go_enter Try.func34, Try.ntmps34
  go_wp2_with (first
    | (refine wpList_mk _ rfl _ _ 29 rfl w.heap.size 5 _ 1 Try.underlying29 info_u8 rfl _ _ _ _ 128 128 rfl rfl (by rfl) (by rfl) (by omega) (by omega) (by rw [HML.out]; omega) (Nat.le_refl _) ?_; intro w1 hown1 hg1)
    | (refine wpList_copy_str _ rfl _ _ _ _ rfl w.heap.size 5 Try.underlying29 (by rfl) w.heap.size 128 128 _ rfl hown1 (str s) rfl (by rw [str_size]; omega) ?_; intro w2 hown2 hg2))
  go_ret
  have hb1 : Below w.heap.size w w1 := (Below.refl _ _).grown hg1 (Nat.le_refl _) (by intro k hk; cases hk)
  have hb2 := hb1.grown hg2 hb1.size (by intro k hk; injection hk with hk; omega)
  refine ⟨_, rfl, OB.mk hown2 (by rw [pad_length hs]) ?_, hb2⟩
  rw [bc_map, str_toList, str_size, List.drop_replicate]
  simp [pad, vb]
end Go.Proofs.Ytjfpanamkkdebaa
namespace Go.Proofs.Ytjfpanamkkdebaa
open Go.RowKit
set_option linter.unusedVariables false
set_option maxRecDepth 100000
set_option linter.unusedSimpArgs false
/-- A device with another power. -/
theorem DkAt.power {w : World} {g k m c : Nat} {d : Dsk} (h : DkAt w g k m c d) (bo de : Bool) (lf : Nat) (hl : lf < 9223372036854775808) (w' : World)
    (hb : w'.heap[g]? = some (.cells #[.bool bo, .int .i64 lf, .bool de, .slice (some ⟨k, 0, none⟩) d.kept.length c, .map (some m)] 81 (0, 0))) (ho : Only w w' [g]) :
    DkAt w' g k m c { d with bound := bo, left := lf, dead := de } := by
  obtain ⟨l1, l2, l3⟩ := h.lt
  have n1 : k ∉ [g] := fun e => h.gk (List.mem_singleton.1 e).symm
  have n2 : m ∉ [g] := fun e => h.gm (List.mem_singleton.1 e).symm
  exact ⟨hb, own_block h.row (ho.block k l2 n1), h.map.block (ho.block m l3 n2), ⟨h.ok.pos, h.ok.most, h.ok.kept, h.ok.loose, hl⟩, h.gk, h.gm, h.km⟩
set_option maxHeartbeats 800000 in
theorem act_any (g k m c : Nat) (d : Dsk) (w : World) (h : DkAt w g k m c d) :
    Calls Try.prog 33 #[.pointer (some ⟨g, 0, none⟩)] w fun e w' => e = .returned (.int .i64 d.actE) ∧ DkAt w' g k m c d.acted ∧ Only w w' [g] := by
  obtain ⟨bo, lf, de, K, L⟩ := d
  have k0 := h.c0
  have k1 := h.c1
  have k2 := h.c2
  have f1 := h.f 1
  have f2 := h.f 2
  have hl := h.ok.left
  have HD := Lib.hid h
  have HB := Lib.hid h.blk
  clear h
  simp only at k0 k1 k2 hl
  cases bo with
  | true =>
    by_cases h0 : lf = 0
    · have hq : ((lf : Int) == 0) = true := by rw [beq_iff_eq]; omega
      go_enter Try.func33, Try.ntmps33
      go_wp2
      go_returns
      have ho := Only.of_grown (Lib.grownBy_setCell w g 2 (.bool true))
      refine ⟨by simp [Dsk.actE, Dsk.stops, h0], ?_, ho⟩
      have := HD.out.power true true lf hl _ (by rw [heap_setCell_same w g 2 _ _ _ HB.out]; rfl) ho
      simpa [Dsk.acted, Dsk.stops, h0] using this
    · have hq : ((lf : Int) == 0) = false := by rw [beq_eq_false_iff_ne]; omega
      have hqn : (lf == 0) = false := by rw [beq_eq_false_iff_ne]; exact h0
      cases de with
      | true =>
        go_enter Try.func33, Try.ntmps33
        go_wp2
        go_returns
        exact ⟨by simp [Dsk.actE, Dsk.stops], by simpa [Dsk.acted, Dsk.stops] using HD.out, Only.refl _ _⟩
      | false =>
        have hs : (lf : Int) - 1 = ((lf - 1 : Nat) : Int) := by omega
        go_enter Try.func33, Try.ntmps33
        go_wp2
        go_returns
        have ho := Only.of_grown (Lib.grownBy_setCell w g 1 (.int .i64 ((lf - 1 : Nat) : Int)))
        refine ⟨by simp [Dsk.actE, Dsk.stops, hqn], ?_, ho⟩
        have := HD.out.power true false (lf - 1) (by omega) _ (by rw [heap_setCell_same w g 1 _ _ _ HB.out]; rfl) ho
        simpa [Dsk.acted, Dsk.stops, hqn] using this
  | false =>
    cases de with
    | true =>
      go_enter Try.func33, Try.ntmps33
      go_wp2
      go_returns
      exact ⟨by simp [Dsk.actE, Dsk.stops], by simpa [Dsk.acted, Dsk.stops] using HD.out, Only.refl _ _⟩
    | false =>
      go_enter Try.func33, Try.ntmps33
      go_wp2
      go_returns
      exact ⟨by simp [Dsk.actE, Dsk.stops], by simpa [Dsk.acted, Dsk.stops] using HD.out, Only.refl _ _⟩
set_option maxHeartbeats 800000 in
theorem fuse_any (g k m c : Nat) (d : Dsk) (n : Int) (w : World) (h : DkAt w g k m c d) (hn : n ≤ 9223372036854775807) (hn0 : -9223372036854775808 ≤ n) :
    Calls Try.prog 28 #[.pointer (some ⟨g, 0, none⟩), .int .i64 n] w fun e w' => e = .returned (.int .i64 d.fuseE) ∧ DkAt w' g k m c (d.fused n) ∧ Only w w' [g] := by
  have HS := Lib.hid (size_any g k m c d w h)
  have h0 := h.ok.pos
  have hq0 : ((d.kept.length : Int) == 0) = false := by rw [beq_eq_false_iff_ne]; omega
  obtain ⟨bo, lf, de, K, L⟩ := d
  have k0 := h.c0
  have k1 := h.c1
  have k2 := h.c2
  have f0 := h.f 0
  have f1 := h.f 1
  have f2 := h.f 2
  have HD := Lib.hid h
  have HB := Lib.hid h.blk
  clear h
  simp only at k0 k1 k2 h0 hq0
  cases de with
  | true =>
    go_enter Try.func28, Try.ntmps28
    go_wp2_with (go_at_call 11; refine HS.out.mono ?_; rintro e w' ⟨rfl, rfl⟩)
    go_returns
    exact ⟨rfl, HD.out, Only.refl _ _⟩
  | false =>
    have h3 : ∀ (b : Bool) (x : Int), ((((w.setCell ⟨g, 0, none⟩ (.bool b)).setCell ⟨g, 1, none⟩ (.int .i64 x)).setCell ⟨g, 2, none⟩ (.bool false)).heap[g]? = some (.cells #[.bool b, .int .i64 x, .bool false, .slice (some ⟨k, 0, none⟩) K.length c, .map (some m)] 81 (0, 0))) ∧ Only w (((w.setCell ⟨g, 0, none⟩ (.bool b)).setCell ⟨g, 1, none⟩ (.int .i64 x)).setCell ⟨g, 2, none⟩ (.bool false)) [g] := by
      intro b x
      refine ⟨?_, ((Only.of_grown (Lib.grownBy_setCell w g 0 _)).trans (Only.of_grown (Lib.grownBy_setCell _ g 1 _))).trans (Only.of_grown (Lib.grownBy_setCell _ g 2 _))⟩
      rw [heap_setCell_same _ g 2 _ _ _ (heap_setCell_same _ g 1 _ _ _ (heap_setCell_same w g 0 _ _ _ HB.out))]
      rfl
    have H3 := Lib.hid h3
    clear h3
    by_cases hp : 0 ≤ n
    · obtain ⟨q, rfl⟩ : ∃ q : Nat, n = (q : Int) := ⟨n.toNat, by omega⟩
      go_enter Try.func28, Try.ntmps28
      go_wp2_with (go_at_call 11; refine HS.out.mono ?_; rintro e w' ⟨rfl, rfl⟩)
      all_goals go_returns
      all_goals
        have ho := (H3.out true (q : Int)).2
        refine ⟨rfl, ?_, ho⟩
        have := HD.out.power true false q (by omega) _ (H3.out true (q : Int)).1 ho
        simpa [Dsk.fused, hp] using this
    · have hmx : max n 0 = 0 := by omega
      have hge : decide (n ≥ 0) = false := decide_eq_false hp
      have hge2 : decide (0 ≤ n) = false := decide_eq_false hp
      have hnt : n.toNat = 0 := by omega
      go_enter Try.func28, Try.ntmps28
      go_wp2_with (go_at_call 11; refine HS.out.mono ?_; rintro e w' ⟨rfl, rfl⟩)
      all_goals go_returns
      all_goals
        have ho := (H3.out false 0).2
        refine ⟨rfl, ?_, ho⟩
        have := HD.out.power false false 0 (by omega) _ (H3.out false 0).1 ho
        have e : decide (0 ≤ n) = false := decide_eq_false (by omega)
        simpa [Dsk.fused, e, hnt] using this
end Go.Proofs.Ytjfpanamkkdebaa
namespace Go.Proofs.Ytjfpanamkkdebaa
open Go.RowKit
set_option linter.unusedVariables false
set_option maxRecDepth 100000
set_option linter.unusedSimpArgs false
theorem askE_zero {d : Dsk} {i : Int} (h : d.askE i = 0) : 0 ≤ i ∧ i < d.kept.length := by
  unfold Dsk.askE at h
  split at h
  · assumption
  · cases h
theorem askE_one {d : Dsk} {i : Int} (h : d.askE i ≠ 0) : d.askE i = 1 := by
  unfold Dsk.askE at h ⊢
  split at h
  · exact absurd rfl h
  · rename_i hn; rw [if_neg hn]
theorem stops_of {d : Dsk} (h : d.actE = 0) : d.stops = false := by
  unfold Dsk.actE at h
  split at h
  · cases h
  · rename_i hn; exact Bool.eq_false_iff.2 hn
theorem stops_if {d : Dsk} (h : d.actE ≠ 0) : d.stops = true ∧ d.actE = 9 := by
  unfold Dsk.actE at h ⊢
  split at h
  · rename_i hn; exact ⟨hn, by rw [if_pos hn]⟩
  · exact absurd rfl h
/-- A device whose map alone has turned. -/
theorem DkAt.wrote {w w' : World} {g k m c : Nat} {d : Dsk} (h : DkAt w g k m c d) {i : Nat} (hi : i < d.kept.length) {s : List UInt8} (hs : s.length = 128)
    (hM : MapIs w' m d.kept.length (fun j => if j = i then some s else d.loose j)) (hg : w.grownBy w' (some m)) :
    DkAt w' g k m c { d with loose := fun j => if j = i then some s else d.loose j } := by
  obtain ⟨l1, l2, l3⟩ := h.lt
  refine ⟨(hg.block g l1 (fun e => by injection e with e; exact h.gm e)).trans h.blk, own_block h.row (hg.block k l2 (fun e => by injection e with e; exact h.km e)), hM, ⟨h.ok.pos, h.ok.most, h.ok.kept, fun j t hj => ?_, h.ok.left⟩, h.gk, h.gm, h.km⟩
  simp only at hj
  split at hj
  · rename_i e
    injection hj with hj
    exact ⟨by rw [e]; exact hi, by rw [← hj]; exact hs⟩
  · exact h.ok.loose j t hj
set_option maxHeartbeats 1600000 in
theorem write_any (g k m c : Nat) (d : Dsk) (i : Int) (A : Option Addr) (cc : Nat) (bs : List UInt8) (w : World) (h : DkAt w g k m c d) (hr : RB w A bs) (hAg : ∀ a, A = some a → bs ≠ [] → a.block ≠ g) (hm : bs.length ≤ 9223372036854775807) :
    Calls Try.prog 10 #[.pointer (some ⟨g, 0, none⟩), .int .i64 i, .slice A bs.length cc] w fun e w' => e = .returned (.int .i64 (d.writeE i bs)) ∧ DkAt w' g k m c (d.wrote i bs) ∧ Only w w' [g, m] := by
  have HK := Lib.hid (ask_any g k m c d i w h)
  have HAc := Lib.hid (act_any g k m c d w h)
  by_cases ha : d.askE i = 0
  · rw [ha] at HK
    obtain ⟨hi0, hi1⟩ := askE_zero ha
    obtain ⟨x, rfl⟩ : ∃ x : Nat, i = (x : Int) := ⟨i.toNat, by omega⟩
    have hx : x < d.kept.length := by omega
    by_cases hb : 128 < bs.length
    · have hq : (bs.length : Int) > 128 := by omega
      have hE : d.writeE x bs = 1 := by unfold Dsk.writeE; rw [ha, if_neg (by decide), if_pos hb]
      have hW : d.wrote x bs = d := by unfold Dsk.wrote; rw [ha, if_neg (by decide), if_pos hb]
      rw [hE, hW]
      have HD := Lib.hid h
      clear h hE hW ha hr
      go_enter Try.func10, Try.ntmps10
      go_wp2_with (go_at_call 32; refine HK.out.mono ?_; rintro e w' ⟨rfl, rfl⟩)
      go_returns
      exact ⟨rfl, HD.out, Only.refl _ _⟩
    · have hq : ¬ ((bs.length : Int) > 128) := by omega
      have hmost := h.ok.most
      have hn := d.acted_kept
      have hlo := d.acted_loose
      have hE : d.writeE x bs = d.actE := by unfold Dsk.writeE; rw [ha, if_neg (by decide), if_neg hb]
      have hW : d.wrote x bs = if d.stops then d.acted else { d.acted with loose := fun j => if j = (x : Int).toNat then some (pad bs) else d.loose j } := by unfold Dsk.wrote; rw [ha, if_neg (by decide), if_neg hb]
      rw [Int.toNat_natCast, ← hlo] at hW
      rw [hE, hW]
      obtain ⟨l1, l2, l3⟩ := h.lt
      by_cases hst : d.actE = 0
      · rw [stops_of hst, hst]
        rw [hst] at HAc
        simp only [Bool.false_eq_true, if_false]
        have HR := Lib.hid hr
        have hgm := h.gm
        rw [← hn] at hx hmost
        generalize d.acted = d2 at HAc hx hmost
        have hpl := pad_length (s := bs) (by omega)
        clear h hE hW ha hr hst hn hlo
        go_enter Try.func10, Try.ntmps10
        go_wp2_with (first
          | (go_at_call 32; refine HK.out.mono ?_; rintro e w' ⟨rfl, rfl⟩)
          | (go_at_call 33; refine HAc.out.mono ?_; rintro e w1 ⟨rfl, hd1, ho1⟩))
        have hr1 : RB w1 A bs := by
          intro j v hj
          obtain ⟨a, ha, hc⟩ := HR.out j v hj
          exact ⟨a, ha, ho1.grown.cell hc (fun e => by injection e with e; refine hAg a ha (fun e0 => by rw [e0] at hj; simp at hj) ?_; rw [← e]; unfold Addr.add; split <;> rfl)⟩
        have k4 := hd1.c4
        have kc := RB.str (P := Try.prog) (w := w1.drew) (src := 29) (dst := 9) Try.underlying29 Try.underlying5 Try.underlying9 hr1.drew bs.length cc rfl
        have HFu := Lib.hid (full_any bs w1.drew (by omega))
        have hdD : DkAt w1.drew g k m c d2 := hd1.below (Below.refl _ _).drew
        have hoD : Only w w1.drew [g] := ho1.alike (Below.refl _ _).drew
        have HdD := Lib.hid hdD
        have HoD := Lib.hid hoD
        clear HK HAc HR hr1 hd1 ho1 hdD hoD
        go_region_law (first
          | (go_simp; go_at_call 34; refine HFu.out.mono ?_; rintro e w2 ⟨v2, rfl, ho2, hb2⟩
             obtain ⟨A2, c2, hv2, hl2, hA2⟩ := ho2.form
             rw [hpl] at hv2
             subst hv2
             have kc2 := RB.str (P := Try.prog) (w := w2) (src := 29) (dst := 9) Try.underlying29 Try.underlying5 Try.underlying9 (RB.of_own ho2) 128 c2 hpl.symm
             have hd2 := HdD.out.below hb2
             have k42 := hd2.c4
             obtain ⟨w3, hst3, hM3, hg3⟩ := hd2.map.store (by omega) x hx (pad bs) (by rw [hpl]; decide)
             have hd3 := Lib.hid (hd2.wrote hx hpl hM3 hg3)
             have ho3 := Lib.hid (((HoD.out.alike hb2).mono (T := [g, m]) (fun i h => by simp at h; simp [h])).trans ((Only.of_grown hg3).mono (fun i h => by simp at h; simp [h])))
             clear ho2 hd2 hM3 hg3))
        all_goals go_wp2
        all_goals go_returns
        all_goals exact ⟨rfl, hd3.out, ho3.out⟩
      · obtain ⟨h1, h9⟩ := stops_if hst
        rw [h1, h9]
        rw [h9] at HAc
        simp only [if_true]
        generalize d.acted = d2 at HAc
        clear h hE hW ha hr hst hn hlo h1 h9
        go_enter Try.func10, Try.ntmps10
        go_wp2_with (first
          | (go_at_call 32; refine HK.out.mono ?_; rintro e w' ⟨rfl, rfl⟩)
          | (go_at_call 33; refine HAc.out.mono ?_; rintro e w1 ⟨rfl, hd1, ho1⟩))
        go_returns
        exact ⟨rfl, hd1, ho1.mono (fun i h => by simp at h; simp [h])⟩
  · have hE : d.writeE i bs = 1 := by unfold Dsk.writeE; rw [if_pos ha]
    have hW : d.wrote i bs = d := by unfold Dsk.wrote; rw [if_pos ha]
    rw [hE, hW]
    rw [askE_one ha] at HK
    have HD := Lib.hid h
    clear h hE hW ha hr
    go_enter Try.func10, Try.ntmps10
    go_wp2_with (go_at_call 32; refine HK.out.mono ?_; rintro e w' ⟨rfl, rfl⟩)
    go_returns
    exact ⟨rfl, HD.out, Only.refl _ _⟩
/-- What Read answers. -/
def Dsk.readE (d : Dsk) (i : Int) : Nat := if d.askE i ≠ 0 then 1 else if d.dead then 9 else 0
set_option maxHeartbeats 800000 in
theorem read_any (g k m c : Nat) (d : Dsk) (i : Int) (w : World) (h : DkAt w g k m c d) :
    Calls Try.prog 69 #[.pointer (some ⟨g, 0, none⟩), .int .i64 i] w fun e w' => ∃ v, e = .returned (.tuple #[v, .int .i64 (d.readE i)]) ∧ OB w' w.heap.size v (if d.readE i = 0 then pad (d.now i.toNat) else []) ∧ Below w.heap.size w w' := by
  have HK := Lib.hid (ask_any g k m c d i w h)
  have k2 := h.c2
  by_cases ha : d.askE i = 0
  · rw [ha] at HK
    obtain ⟨hi0, hi1⟩ := askE_zero ha
    obtain ⟨x, rfl⟩ : ∃ x : Nat, i = (x : Int) := ⟨i.toNat, by omega⟩
    have HN := Lib.hid (now_any g k m c d x w h (by omega))
    have hnl := h.ok.now x
    have HFu := Lib.hid (full_any (d.now x) w hnl)
    cases hd : d.dead with
    | true =>
      have hE : d.readE x = 9 := by unfold Dsk.readE; rw [ha, if_neg (by decide), hd]; rfl
      rw [hE]
      rw [hd] at k2
      clear h hE ha
      go_enter Try.func69, Try.ntmps69
      go_wp2_with (go_at_call 32; refine HK.out.mono ?_; rintro e w' ⟨rfl, rfl⟩)
      go_ret2
      exact ⟨_, rfl, World.ownsRow_nil _ _ _ _, Below.refl _ _⟩
    | false =>
      have hE : d.readE x = 0 := by unfold Dsk.readE; rw [ha, if_neg (by decide), hd]; rfl
      rw [hE, Int.toNat_natCast]
      simp only [if_true]
      rw [hd] at k2
      generalize d.now x = y at HN HFu
      clear h hE ha
      go_enter Try.func69, Try.ntmps69
      go_wp2_with (first
        | (go_at_call 32; refine HK.out.mono ?_; rintro e w' ⟨rfl, rfl⟩)
        | (go_at_call 77; refine HN.out.mono ?_; rintro e w' ⟨rfl, rfl⟩)
        | (go_at_call 34; refine HFu.out.mono ?_; rintro e w2 ⟨v2, rfl, ho2, hb2⟩))
      go_ret2
      exact ⟨_, rfl, ho2, hb2⟩
  · have hE : d.readE i = 1 := by unfold Dsk.readE; rw [if_pos ha]
    rw [hE]
    rw [askE_one ha] at HK
    clear h hE ha
    go_enter Try.func69, Try.ntmps69
    go_wp2_with (go_at_call 32; refine HK.out.mono ?_; rintro e w' ⟨rfl, rfl⟩)
    go_ret2
    exact ⟨_, rfl, World.ownsRow_nil _ _ _ _, Below.refl _ _⟩
end Go.Proofs.Ytjfpanamkkdebaa
namespace Go.Proofs.Ytjfpanamkkdebaa
open Go.RowKit Go.Maps
set_option linter.unusedVariables false
set_option maxRecDepth 100000
set_option linter.unusedSimpArgs false
section
variable {w : World} {ops : Array Oper} {rest : List Oper} {o : Oper} {a : Act} {Q : Exit → Act → World → Prop}
theorem wpList_clear_map (hg : o.guard = none) (x : Operand) (hop : o.op = .call { callee := .builtin .clear, args := #[x], argTypes := #[77] }) (b N : Nat) (L : Nat → Option (List UInt8)) (hx : a.eval x = .map (some b)) (h : MapIs w b N L)
    (hK : ∀ w', MapIs w' b N (fun _ => none) → w.grownBy w' (some b) → wpList Try.prog ops Q rest (a.put o.dst (.tuple #[])) w') : wpList Try.prog ops Q (o :: rest) a w := by
  obtain ⟨w', hrun, h1, h2⟩ := h.clear o.type
  refine wpList_plain hg fun K hK' => ?_
  unfold Oper.wp
  simp only [execOp, hop, resolve, invoke, builtin, Sem.run_bind, Sem.run_pure, Result.andThen_ok, List.map_toArray, List.map_cons, List.map_nil, hx, hrun]
  exact hK' _ _ (hK w' h1 h2)
end
/-- The pages while what was written is laid over them: those that are no longer to come. -/
def merged (K : List (List UInt8)) (L : Nat → Option (List UInt8)) (left : Nat → Bool) : List (List UInt8) :=
  (List.range K.length).map fun i => match L i with | some s => if left i then K.getD i [] else s | none => K.getD i []
theorem merged_length (K : List (List UInt8)) (L : Nat → Option (List UInt8)) (left : Nat → Bool) : (merged K L left).length = K.length := by simp [merged]
theorem merged_start (K : List (List UInt8)) (L : Nat → Option (List UInt8)) : merged K L (fun i => (L i).isSome) = K := by
  refine List.ext_getElem (merged_length _ _ _) fun i h1 h2 => ?_
  have hg : K.getD i [] = K[i] := by rw [List.getD_eq_getElem?_getD, List.getElem?_eq_getElem h2]; rfl
  simp only [merged, List.getElem_map, List.getElem_range, hg]
  cases L i <;> simp
theorem merged_step (K : List (List UInt8)) (L : Nat → Option (List UInt8)) (left : Nat → Bool) (i : Nat) (s : List UInt8) (hs : L i = some s) :
    merged K L (fun j => left j && !decide (j = i)) = (merged K L left).set i s := by
  refine List.ext_getElem (by simp [merged]) fun j h1 h2 => ?_
  by_cases e : i = j
  · subst e
    rw [List.getElem_set_self]
    simp [merged, hs]
  · rw [List.getElem_set_ne e]
    simp [merged, show ¬ j = i from fun e2 => e e2.symm]
theorem merged_end (d : Dsk) (left : Nat → Bool) (h : ∀ i, i < d.kept.length → left i = false) : merged d.kept d.loose left = (List.range d.kept.length).map d.now := by
  refine List.ext_getElem (by simp [merged]) fun i h1 h2 => ?_
  have hi : i < d.kept.length := by simpa [merged] using h1
  simp only [merged, List.getElem_map, List.getElem_range, h i hi, Dsk.now]
  cases d.loose i <;> rfl
/-- One page's bytes anew. -/
theorem DkAt.keptSet {w : World} {g k m c : Nat} {d : Dsk} {K : List (List UInt8)} (h : DkAt w g k m c { d with kept := K }) {i : Nat} (hi : i < K.length) {s : List UInt8} (hs : s.length ≤ 128) :
    DkAt (w.setCell ⟨k, i, none⟩ (.string (str s))) g k m c { d with kept := K.set i s } ∧ Only w (w.setCell ⟨k, i, none⟩ (.string (str s))) [k] := by
  obtain ⟨l1, l2, l3⟩ := h.lt
  have ho := Only.of_grown (Lib.grownBy_setCell w k i (.string (str s)))
  have hl : (K.set i s).length = K.length := List.length_set
  refine ⟨⟨?_, ?_, ?_, ⟨?_, ?_, ?_, ?_, h.ok.left⟩, h.gk, h.gm, h.km⟩, ho⟩
  · rw [ho.block g l1 (fun e => h.gk (List.mem_singleton.1 e)), h.blk]
    simp only [hl]
  · have := (World.ownsRow.stored h.row i (vs s)).1
    rw [← List.map_set] at this
    simp only [hl]
    exact this
  · simp only [hl]
    exact h.map.block (ho.block m l3 (fun e => h.km (List.mem_singleton.1 e).symm))
  · simp only [hl]; exact h.ok.pos
  · simp only [hl]; exact h.ok.most
  · intro t ht
    rcases List.mem_or_eq_of_mem_set ht with ht | rfl
    · exact h.ok.kept t ht
    · exact hs
  · simp only [hl]; exact h.ok.loose
set_option maxHeartbeats 3200000 in
theorem sync_any (g k m c : Nat) (d : Dsk) (w : World) (h : DkAt w g k m c d) :
    Calls Try.prog 29 #[.pointer (some ⟨g, 0, none⟩)] w fun e w' => e = .returned (.int .i64 d.actE) ∧ DkAt w' g k m c d.synced ∧ Only w w' [g, k, m] := by
  have HS := Lib.hid (size_any g k m c d w h)
  have h0 := h.ok.pos
  have hq0 : ((d.kept.length : Int) == 0) = false := by rw [beq_eq_false_iff_ne]; omega
  have HAc := Lib.hid (act_any g k m c d w h)
  have hok := h.ok.synced
  by_cases hst : d.actE = 0
  · rw [hst] at HAc
    have HSy : Hid (d.synced = { d.acted with kept := (List.range d.kept.length).map d.now, loose := fun _ => none }) := by show _ = _; unfold Dsk.synced; rw [stops_of hst]; rfl
    rw [hst]
    have hn := d.acted_kept
    have hlo := d.acted_loose
    have HMe : Hid (∀ left : Nat → Bool, (∀ i, i < d.kept.length → left i = false) → merged d.kept d.loose left = (List.range d.kept.length).map d.now) := fun left h => merged_end d left h
    have hmost := h.ok.most
    have hlen := congrArg List.length hn
    have HD2 : Hid (d.acted = { d.acted with kept := d.kept, loose := d.loose }) := by show _ = _; rw [← hn, ← hlo]
    rw [← hn, ← hlo] at HMe
    rw [← hn] at HSy
    rw [← hlen] at HS hq0
    have HO : Hid d.synced.Ok := hok
    generalize (List.range d.acted.kept.length).map d.now = F at HSy HMe
    generalize d.synced = ds at HSy HO ⊢
    generalize d.acted = d2 at HAc hn hlo HMe HSy HS hq0
    clear h hst hn hlo hok HD2 hlen
    have h0' : True := trivial
    clear h0 hmost
    go_enter Try.func29, Try.ntmps29
    go_wp2_with (first
      | (go_at_call 11; refine HS.out.mono ?_; rintro e w' ⟨rfl, rfl⟩)
      | (go_at_call 33; refine HAc.out.mono ?_; rintro e w1 ⟨rfl, hd1, ho1⟩
         have k4 := hd1.c4
         have hM1 := hd1.map)
      | (at_range; refine wpList_range_map rfl _ rfl m _ _ rfl hM1 ?_; intro w2 cnt hrg hg2 hs2))
    go_frame
    obtain ⟨l1, l2, l3⟩ := hd1.lt
    have hN := hd1.ok.most
    have hLo := Lib.hid hd1.ok.loose
    have hd2 : DkAt w2 g k m c { d2 with kept := merged d2.kept d2.loose (fun i => (d2.loose i).isSome) } := by
      rw [merged_start]
      exact hd1.only (S := []) ⟨hg2.os, hg2.tape, hg2.output, hg2.size, fun i hi _ => hg2.block i hi (by simp)⟩ List.not_mem_nil List.not_mem_nil List.not_mem_nil
    have ho2 : Only w w2 [g, k, m] := (ho1.mono (fun i h => by simp at h; simp [h])).trans ⟨hg2.os, hg2.tape, hg2.output, hg2.size, fun i hi _ => hg2.block i hi (by simp)⟩
    obtain ⟨r, hr⟩ : ∃ r, r = w1.heap.size := ⟨_, rfl⟩
    have hwr : w.heap.size ≤ r := hr ▸ ho1.size
    rw [← hr] at hrg l1 l2 l3 ⊢
    have hgm := hd1.gm
    have hgk := hd1.gk
    have hkm := hd1.km
    clear hd1 ho1 k4 hM1 hg2 hs2 HAc HS hr
    go_loopg [4] cnt (fun x s4 wr => ∃ left : Nat → Bool, MapRg wr m r d2.kept.length d2.loose left x ∧ DkAt wr g k m c { d2 with kept := merged d2.kept d2.loose left } ∧ Only w wr [g, k, m])
    case atStart => exact ⟨_, hrg, hd2, ho2⟩
    case round =>
      clear hrg hd2 ho2
      obtain ⟨left, hrg, hd, ho⟩ := hrel
      go_wp2_with (at_next; refine wpList_next_map rfl _ rfl m r d2.kept.length d2.loose left gk (by omega) rfl hrg ?_ ?_)
      · intro hl0
        have HF := Lib.hid (HMe.out left hl0)
        have hM := hrg.isMap
        have k4 := hd.c4
        go_wp2_with (refine wpList_clear_map rfl _ rfl m _ _ rfl hM ?_; intro w4 hM4 hg4)
        go_returns
        obtain ⟨j1, j2, j3⟩ := hd.lt
        have hFl : F.length = d2.kept.length := by rw [← HF.out]; exact merged_length _ _ _
        have hg4' := hg4
        rw [HF.out] at hd
        have hO := HO.out
        rw [HSy.out] at hO ⊢
        refine ⟨rfl, ⟨(hg4.block g j1 (fun e => by injection e with e; exact hgm e)).trans hd.blk, own_block hd.row (hg4.block k j2 (fun e => by injection e with e; exact hkm e)), ?_, hO, hgk, hgm, hkm⟩, ho.trans ((Only.of_grown hg4).mono (fun i h => by simp at h; simp [h]))⟩
        show MapIs w4 m F.length (fun _ => none)
        rw [hFl]
        exact hM4
      · intro i s w3 cnt' hi hli hLi hsl hrg3 hlt hg3 hs3 hen
        have hd3 : DkAt w3 g k m c { d2 with kept := merged d2.kept d2.loose left } := hd.only (Only.of_grown hg3) (fun e => by have := List.mem_singleton.1 e; omega) (fun e => by have := List.mem_singleton.1 e; omega) (fun e => by have := List.mem_singleton.1 e; omega)
        have ho3 : Only w w3 [g, k, m] := ⟨hg3.os.trans ho.os, hg3.tape.trans ho.tape, hg3.output.trans ho.output, Nat.le_trans ho.size hg3.size, fun j hj hn => (hg3.block j (Nat.lt_of_lt_of_le hj ho.size) (fun e => by injection e with e; omega)).trans (ho.block j hj hn)⟩
        have k3 := hd3.c3
        have hml := merged_length d2.kept d2.loose left
        have him : i < (merged d2.kept d2.loose left).length := by omega
        have hk := World.ownsRow.cellAt hd3.row i (by rw [Nat.mul_one]; exact him)
        have hf := World.ownsRow.frozenAt hd3.row i
        have hsl2 := hLo.out i s hLi
        have hms := merged_step d2.kept d2.loose left i s hLi
        have hks := hd3.keptSet him (s := s) (by omega)
        rw [← hms] at hks
        clear HMe HSy HO hrg hd ho hms
        simp only [hml] at k3
        have hi0 : (0 : Int) ≤ (i : Int) := by omega
        have hi1 : (i : Int) < (d2.kept.length : Int) := by omega
        obtain ⟨old, ho9⟩ : ∃ v, w3.cell? ⟨k, i, none⟩ = some v := by
          have : i < (List.map vs (merged d2.kept d2.loose left)).length := by rw [List.length_map]; exact him
          exact ⟨_, hk.trans (List.getElem?_eq_getElem this)⟩
        have HKs := Lib.hid hks
        clear hk hks hd3
        go_wp2
        go_roundg cnt'
        case measure => exact hlt
        exact ⟨_, hrg3.kept (Lib.grownBy_setCell w3 k i _) (fun e => by injection e with e; exact hkm e.symm) (fun e => by injection e with e; omega), HKs.out.1, ho3.trans (HKs.out.2.mono (fun i h => by simp at h; simp [h]))⟩
  · have hs9 := stops_if hst
    have HSy : Hid (d.synced = d.acted) := by show _ = _; unfold Dsk.synced; rw [hs9.1]; rfl
    rw [hs9.2, HSy.out]
    rw [hs9.2] at HAc
    clear h hst hs9 HSy hok
    go_enter Try.func29, Try.ntmps29
    go_wp2_with (first
      | (go_at_call 11; refine HS.out.mono ?_; rintro e w' ⟨rfl, rfl⟩)
      | (go_at_call 33; refine HAc.out.mono ?_; rintro e w1 ⟨rfl, hd1, ho1⟩))
    go_returns
    exact ⟨rfl, hd1, ho1.mono (fun i h => by simp at h; simp [h])⟩
end Go.Proofs.Ytjfpanamkkdebaa
namespace Go.Proofs.Ytjfpanamkkdebaa
open Go.RowKit
set_option linter.unusedVariables false
set_option maxRecDepth 100000
set_option linter.unusedSimpArgs false
theorem info_i64 : (Try.prog.info? 3).map (fun i => (i.zero, i.size, i.bytes)) = some (some (.int .i64 0), 1, 8) := by kernel_rfl
/-- Numbers that the call itself made. -/
def OI (w : World) (base : Nat) (v : Value) (l : List Int) : Prop := w.ownsRow base 3 1 v l.length (l.map (Value.int .i64))
theorem OI.form {w : World} {base : Nat} {v : Value} {l : List Int} (h : OI w base v l) : ∃ A c, v = .slice A l.length c ∧ l.length ≤ c ∧ (A = none → c = 0) := by
  rcases h.2 with ⟨rfl, h0⟩ | ⟨g, cap, cur, rfl, _, _, h, _⟩
  · exact ⟨_, _, by rw [h0], by omega, fun _ => rfl⟩
  · exact ⟨_, _, rfl, h, fun h => by cases h⟩
theorem OI.below {w w' : World} {base : Nat} {v : Value} {l : List Int} (h : OI w base v l) (hb : Below w.heap.size w w') : OI w' base v l := by
  refine World.ownsRow.kept h (row := none) ⟨hb.os, hb.tape, hb.output, hb.size, fun k hk _ => hb.block k hk⟩ ?_
  cases v.ownBlock <;> simp
theorem OI.mk {w : World} {base n : Nat} {v : Value} {xs : List Value} {l : List Int} (h : w.ownsRow base 3 1 v n xs) (hn : n = l.length) (hx : xs = l.map (Value.int .i64)) : OI w base v l := by
  subst hn
  subst hx
  exact h
theorem OI.mono {w : World} {base base' : Nat} {v : Value} {l : List Int} (h : OI w base v l) (hb : base' ≤ base) : OI w base' v l := by
  refine ⟨h.1, ?_⟩
  rcases h.2 with h | ⟨g, cap, cur, hv, hg, r⟩
  · exact .inl h
  · exact .inr ⟨g, cap, cur, hv, Nat.le_trans hb hg, r⟩
theorem RI.of_own {w : World} {base : Nat} {A : Option Addr} {n c : Nat} {l : List Int} (h : OI w base (.slice A n c) l) : Lies w A (l.map (Value.int .i64)) := Lies.of_own h
/-- The first of the pages that were written since. -/
def looseN (L : Nat → Option (List UInt8)) (k : Nat) : List Int := ((List.range k).filter fun i => (L i).isSome).map fun i : Nat => (i : Int)
theorem looseL_eq (d : Dsk) : d.looseL = looseN d.loose d.kept.length := rfl
theorem looseN_some {L : Nat → Option (List UInt8)} {k : Nat} (h : (L k).isSome = true) : looseN L (k + 1) = looseN L k ++ [(k : Int)] := by
  simp [looseN, List.range_succ, List.filter_append, h]
theorem looseN_none {L : Nat → Option (List UInt8)} {k : Nat} (h : (L k).isSome = false) : looseN L (k + 1) = looseN L k := by
  simp [looseN, List.range_succ, List.filter_append, h]
theorem looseN_len (L : Nat → Option (List UInt8)) (k : Nat) : (looseN L k).length ≤ k := by
  rw [looseN, List.length_map]
  exact Nat.le_trans (List.length_filter_le _ _) (by simp)
set_option maxHeartbeats 1600000 in
theorem loose_any (g k m c : Nat) (d : Dsk) (w : World) (h : DkAt w g k m c d) :
    Calls Try.prog 45 #[.pointer (some ⟨g, 0, none⟩)] w fun e w' => ∃ v, e = .returned v ∧ OI w' w.heap.size v d.looseL ∧ Below w.heap.size w w' := by
  have HS := Lib.hid (size_any g k m c d w h)
  have h0 := h.ok.pos
  have hN := h.ok.most
  have hq0 : ((d.kept.length : Int) == 0) = false := by rw [beq_eq_false_iff_ne]; omega
  have k3 := h.c3
  have HD := Lib.hid h
  rw [looseL_eq]
  clear h
  go_enter Try.func45, Try.ntmps45
  go_wp2_with (go_at_call 11; refine HS.out.mono ?_; rintro e w' ⟨rfl, rfl⟩)
  go_loopg [3, 15] d.kept.length (fun r o i wr => ∃ j : Nat, j + r = d.kept.length ∧ i = .int .i64 j ∧ OI wr w.heap.size o (looseN d.loose j) ∧ Below w.heap.size w wr)
  case atStart => exact ⟨0, by omega, rfl, World.ownsRow_nil _ _ _ _, Below.refl _ _⟩
  case round =>
    obtain ⟨j, hj, rfl, ho, hb⟩ := hrel
    by_cases hjk : j < d.kept.length
    · have hd := HD.out.below hb
      have k4 := hd.c4
      have hlk := hd.map.look (by omega) j hjk
      have hj1 : decide ((j : Int) < (d.kept.length : Int)) = true := decide_eq_true (by omega)
      have hol := ho
      have hll := looseN_len d.loose j
      unfold OI at hol
      obtain ⟨A1, c1, rfl, hl1, hA1⟩ := ho.form
      clear hd
      cases hs : (d.loose j).isSome with
      | true =>
        rw [hs] at hlk
        have hln := looseN_some hs
        go_wp2_with (at_builtin; (refine wpList_app _ rfl _ _ 23 rfl w.heap.size 3 _ 1 8 Try.underlying23 info_i64 rfl (by decide) _ _ _ rfl (World.ownsRow.alloc hol _) (some ⟨wr.heap.size, 0, none⟩) 1 1 [.int .i64 j] rfl rfl (Lies.new wr 3 _ (0, 0)) (by intro u hu; cases List.mem_singleton.1 hu; rfl) (by simp) ?c1 ?c2 ?c3 ?_))
        case c1 => rw [show maxLen = 9223372036854775807 from rfl]; omega
        case c2 => omega
        case c3 => have := hb.size; simp; omega
        intro v3 w3 hown3 hg3 _
        have ho3 : OI w3 w.heap.size v3 (looseN d.loose (j + 1)) := OI.mk hown3 (by rw [hln]; simp) (by rw [hln]; simp)
        have hb3 : Below w.heap.size w w3 := (hb.alloc hb.size _).grown hg3 (by have := hb.size; simp; omega) (by intro k hk; exact (World.ownsRow.lt hol k hk).1)
        go_wp2
        go_roundg (d.kept.length - (j + 1))
        case measure => omega
        case rel => exact ⟨j + 1, by omega, by go_num, ho3, hb3⟩
      | false =>
        rw [hs] at hlk
        have hln := looseN_none hs
        go_wp2
        go_roundg (d.kept.length - (j + 1))
        case measure => omega
        case rel => exact ⟨j + 1, by omega, by go_num, by rw [hln]; exact ho, hb⟩
    · obtain rfl : j = d.kept.length := by omega
      go_wp2
      go_ret
      exact ⟨_, rfl, ho, hb⟩
end Go.Proofs.Ytjfpanamkkdebaa
namespace Go.Proofs.Ytjfpanamkkdebaa
open Go.RowKit
set_option linter.unusedVariables false
set_option maxRecDepth 100000
set_option linter.unusedSimpArgs false
/-- Where a number is first; -1: nowhere. -/
def findI (l : List Int) (x : Int) : Int := match l.findIdx? (· == x) with | some i => (i : Int) | none => -1
theorem findI_ge (l : List Int) (x : Int) : decide (findI l x ≥ 0) = decide (x ∈ l) := by
  unfold findI
  cases h : l.findIdx? (· == x) with
  | none =>
    rw [List.findIdx?_eq_none_iff] at h
    have hn : x ∉ l := fun hm => by have := h x hm; simp at this
    simp [hn]
  | some i =>
    obtain ⟨h1, h2, _⟩ := List.findIdx?_eq_some_iff_getElem.1 h
    have hm : x ∈ l := by
      have := beq_iff_eq.1 h2
      rw [← this]; exact List.getElem_mem h1
    simp [hm]
theorem findI_at {l : List Int} {x : Int} {j : Nat} (hj : j < l.length) (hx : l[j] = x) (hn : ∀ t, (h : t < j) → l[t]'(by omega) ≠ x) : findI l x = j := by
  have : l.findIdx? (· == x) = some j := List.findIdx?_eq_some_iff_getElem.2 ⟨hj, by simp [hx], fun t ht => by simpa using hn t ht⟩
  rw [findI, this]
theorem findI_no {l : List Int} {x : Int} (hn : ∀ t, (h : t < l.length) → l[t] ≠ x) : findI l x = -1 := by
  have : l.findIdx? (· == x) = none := List.findIdx?_eq_none_iff.2 fun y hy => by
    obtain ⟨t, ht, rfl⟩ := List.getElem_of_mem hy
    simpa using hn t ht
  rw [findI, this]
theorem index_any (A : Option Addr) (c : Nat) (l : List Int) (x : Int) (w : World) (hr : Lies w A (l.map (Value.int .i64))) (hm : l.length ≤ 9223372036854775807) :
    Calls Try.prog 66 #[.slice A l.length c, .int .i64 x] w fun e w' => e = .returned (.int .i64 (findI l x)) ∧ w = w' := by
  go_enter Try.func66, Try.ntmps66
  go_wp2
  go_loopg [8] l.length (fun r i wr => ∃ j : Nat, j + r = l.length ∧ i = .int .i64 j ∧ (∀ t, (h : t < j) → (h2 : t < l.length) → l[t] ≠ x) ∧ w = wr)
  case atStart => exact ⟨0, by omega, rfl, fun t h => absurd h (Nat.not_lt_zero _), rfl⟩
  case round =>
    obtain ⟨j, hj, rfl, hn, rfl⟩ := hrel
    by_cases hjk : j < l.length
    · obtain ⟨a, rfl, hc⟩ := hr.at (k := j) (by simpa using hjk)
      rw [List.getElem_map] at hc
      have hj0 : (0 : Int) ≤ (j : Int) := by omega
      have hj1 : ((j : Nat) : Int) < l.length := by omega
      by_cases hx : l[j] = x
      · have hf := findI_at hjk hx (fun t ht => hn t ht (by omega))
        rw [hx] at hc
        go_wp2
        go_returns
        exact ⟨by rw [hf]; rfl, rfl⟩
      · have hq : (x == l[j]) = false := by rw [beq_eq_false_iff_ne]; exact fun e => hx e.symm
        have hn2 : ∀ t, (h : t < j + 1) → (h2 : t < l.length) → l[t] ≠ x := by
          intro t ht h2
          by_cases e : t = j
          · subst e; exact hx
          · exact hn t (by omega) h2
        have hn2 := Lib.hid hn2
        clear hn hx
        generalize l[j] = y at hc hq
        go_wp2
        go_roundg (l.length - (j + 1))
        case measure => omega
        case rel => exact ⟨j + 1, by omega, by go_num, hn2.out, rfl⟩
    · obtain rfl : j = l.length := by omega
      have hf := findI_no (fun t ht => hn t ht ht)
      go_wp2
      go_returns
      exact ⟨by rw [hf]; rfl, rfl⟩
theorem contains_any (A : Option Addr) (c : Nat) (l : List Int) (x : Int) (w : World) (hr : Lies w A (l.map (Value.int .i64))) (hm : l.length ≤ 9223372036854775807) :
    Calls Try.prog 46 #[.slice A l.length c, .int .i64 x] w fun e w' => e = .returned (.bool (decide (x ∈ l))) ∧ w = w' := by
  have HI := Lib.hid (index_any A c l x w hr hm)
  rw [← findI_ge]
  go_enter Try.func46, Try.ntmps46
  go_wp2_with (go_at_call 66; refine HI.out.mono ?_; rintro e w' ⟨rfl, rfl⟩)
  go_returns
  exact ⟨rfl, rfl⟩
theorem looseN_nodup (L : Nat → Option (List UInt8)) (k : Nat) : (looseN L k).Nodup := by
  unfold looseN
  refine List.pairwise_map.2 ((List.nodup_range.filter _).imp fun {a b} h e => h ?_)
  omega
/-- The pages while a crash goes through those that were written. -/
def partly (d : Dsk) (keep : List Int) (torn : Int) (cut : Nat) (done : List Int) : List (List UInt8) :=
  (List.range d.kept.length).map fun i : Nat => if (i : Int) ∈ done then d.after keep torn cut i else d.kept.getD i []
theorem partly_length (d : Dsk) (keep : List Int) (torn : Int) (cut : Nat) (done : List Int) : (partly d keep torn cut done).length = d.kept.length := by simp [partly]
theorem partly_start (d : Dsk) (keep : List Int) (torn : Int) (cut : Nat) : partly d keep torn cut [] = d.kept := by
  refine List.ext_getElem (partly_length _ _ _ _ _) fun i h1 h2 => ?_
  simp only [partly, List.getElem_map, List.getElem_range, List.not_mem_nil, if_false]
  rw [List.getD_eq_getElem?_getD, List.getElem?_eq_getElem h2]; rfl
theorem partly_end (d : Dsk) (keep : List Int) (torn : Int) (cut : Nat) : partly d keep torn cut d.looseL = (List.range d.kept.length).map (d.after keep torn cut) := by
  refine List.ext_getElem (by simp [partly]) fun i h1 h2 => ?_
  have hi : i < d.kept.length := by simpa [partly] using h1
  simp only [partly, List.getElem_map, List.getElem_range]
  split
  · rfl
  · rename_i hn
    have : d.loose i = none := by
      cases e : d.loose i with
      | none => rfl
      | some s => exact absurd (List.mem_map.2 ⟨i, List.mem_filter.2 ⟨List.mem_range.2 hi, by simp [e]⟩, rfl⟩) hn
    simp [Dsk.after, this]
theorem partly_step (d : Dsk) (keep : List Int) (torn : Int) (cut : Nat) (done : List Int) (i : Nat) : partly d keep torn cut (done ++ [(i : Int)]) = (partly d keep torn cut done).set i (d.after keep torn cut i) := by
  refine List.ext_getElem (by simp [partly]) fun j h1 h2 => ?_
  by_cases e : i = j
  · subst e
    rw [List.getElem_set_self]
    simp [partly]
  · rw [List.getElem_set_ne e]
    have : ¬ (j : Int) = (i : Int) := fun e2 => e (by omega)
    simp [partly, List.mem_append, this]
theorem partly_at (d : Dsk) (keep : List Int) (torn : Int) (cut : Nat) (done : List Int) (i : Nat) (hi : i < d.kept.length) (hn : (i : Int) ∉ done) : (partly d keep torn cut done)[i]'(by rw [partly_length]; exact hi) = d.kept.getD i [] := by
  simp [partly, hn]
theorem partly_same (d : Dsk) (keep : List Int) (torn : Int) (cut : Nat) (done : List Int) (i : Nat) (hi : i < d.kept.length) (hn : (i : Int) ∉ done) (ha : d.after keep torn cut i = d.kept.getD i []) : partly d keep torn cut (done ++ [(i : Int)]) = partly d keep torn cut done := by
  rw [partly_step, ha, ← partly_at d keep torn cut done i hi hn, List.set_getElem_self]
theorem looseL_at {d : Dsk} {x : Int} (h : x ∈ d.looseL) : ∃ i : Nat, x = (i : Int) ∧ i < d.kept.length ∧ ∃ s, d.loose i = some s := by
  obtain ⟨i, hi, rfl⟩ := List.mem_map.1 h
  obtain ⟨h1, h2⟩ := List.mem_filter.1 hi
  exact ⟨i, rfl, List.mem_range.1 h1, Option.isSome_iff_exists.1 h2⟩
theorem not_taken {l : List Int} (h : l.Nodup) {j : Nat} (hj : j < l.length) : l[j] ∉ l.take j := by
  intro hm
  obtain ⟨t, ht, e⟩ := List.mem_take_iff_getElem.1 hm
  have := (List.pairwise_iff_getElem.1 h) t j (by omega) hj (by omega)
  exact this e
end Go.Proofs.Ytjfpanamkkdebaa
