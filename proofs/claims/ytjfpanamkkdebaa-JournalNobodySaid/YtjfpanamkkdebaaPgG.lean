/- The pages that were written since: the walk. -/
import Derived.Test.YtjfpanamkkdebaaPgF
namespace Go.Proofs.Ytjfpanamkkdebaa
open Go.RowKit
set_option linter.unusedVariables false
set_option maxRecDepth 100000
set_option linter.unusedSimpArgs false
theorem info_i64 : (Try.prog.info? 3).map (fun i => (i.zero, i.size, i.bytes)) = some (some (.int .i64 0), 1, 8) := by kernel_rfl
/-- Numbers that the call itself made. -/
def OI (w : World) (base : Nat) (v : Value) (l : List Int) : Prop := w.ownsRow base 3 1 v l.length (l.map (Value.int .i64))
theorem OI.form {w : World} {base : Nat} {v : Value} {l : List Int} (h : OI w base v l) : ∃ A c, v = .slice A l.length c ∧ l.length ≤ c ∧ (A = none → c = 0) := by
  rcases h.2 with ⟨rfl, h0⟩ | ⟨g, cap, cur, rfl, _, _, h, _⟩
  · exact ⟨_, _, by rw [h0], by omega, fun _ => rfl⟩
  · exact ⟨_, _, rfl, h, fun h => by cases h⟩
theorem OI.below {w w' : World} {base : Nat} {v : Value} {l : List Int} (h : OI w base v l) (hb : Below w.heap.size w w') : OI w' base v l := by
  refine World.ownsRow.kept h (row := none) ⟨hb.os, hb.tape, hb.output, hb.size, fun k hk _ => hb.block k hk⟩ ?_
  cases v.ownBlock <;> simp
theorem OI.mk {w : World} {base n : Nat} {v : Value} {xs : List Value} {l : List Int} (h : w.ownsRow base 3 1 v n xs) (hn : n = l.length) (hx : xs = l.map (Value.int .i64)) : OI w base v l := by
  subst hn
  subst hx
  exact h
theorem OI.mono {w : World} {base base' : Nat} {v : Value} {l : List Int} (h : OI w base v l) (hb : base' ≤ base) : OI w base' v l := by
  refine ⟨h.1, ?_⟩
  rcases h.2 with h | ⟨g, cap, cur, hv, hg, r⟩
  · exact .inl h
  · exact .inr ⟨g, cap, cur, hv, Nat.le_trans hb hg, r⟩
theorem RI.of_own {w : World} {base : Nat} {A : Option Addr} {n c : Nat} {l : List Int} (h : OI w base (.slice A n c) l) : Lies w A (l.map (Value.int .i64)) := Lies.of_own h
/-- The first of the pages that were written since. -/
def looseN (L : Nat → Option (List UInt8)) (k : Nat) : List Int := ((List.range k).filter fun i => (L i).isSome).map fun i : Nat => (i : Int)
theorem looseL_eq (d : Dsk) : d.looseL = looseN d.loose d.kept.length := rfl
theorem looseN_some {L : Nat → Option (List UInt8)} {k : Nat} (h : (L k).isSome = true) : looseN L (k + 1) = looseN L k ++ [(k : Int)] := by
  simp [looseN, List.range_succ, List.filter_append, h]
theorem looseN_none {L : Nat → Option (List UInt8)} {k : Nat} (h : (L k).isSome = false) : looseN L (k + 1) = looseN L k := by
  simp [looseN, List.range_succ, List.filter_append, h]
theorem looseN_len (L : Nat → Option (List UInt8)) (k : Nat) : (looseN L k).length ≤ k := by
  rw [looseN, List.length_map]
  exact Nat.le_trans (List.length_filter_le _ _) (by simp)
set_option maxHeartbeats 1600000 in
theorem loose_any (g k m c : Nat) (d : Dsk) (w : World) (h : DkAt w g k m c d) :
    Calls Try.prog 45 #[.pointer (some ⟨g, 0, none⟩)] w fun e w' => ∃ v, e = .returned v ∧ OI w' w.heap.size v d.looseL ∧ Below w.heap.size w w' := by
  have HS := Lib.hid (size_any g k m c d w h)
  have h0 := h.ok.pos
  have hN := h.ok.most
  have hq0 : ((d.kept.length : Int) == 0) = false := by rw [beq_eq_false_iff_ne]; omega
  have k3 := h.c3
  have HD := Lib.hid h
  rw [looseL_eq]
  clear h
  go_enter Try.func45, Try.ntmps45
  go_wp2_with (go_at_call 11; refine HS.out.mono ?_; rintro e w' ⟨rfl, rfl⟩)
  go_loopg [3, 15] d.kept.length (fun r o i wr => ∃ j : Nat, j + r = d.kept.length ∧ i = .int .i64 j ∧ OI wr w.heap.size o (looseN d.loose j) ∧ Below w.heap.size w wr)
  case atStart => exact ⟨0, by omega, rfl, World.ownsRow_nil _ _ _ _, Below.refl _ _⟩
  case round =>
    obtain ⟨j, hj, rfl, ho, hb⟩ := hrel
    by_cases hjk : j < d.kept.length
    · have hd := HD.out.below hb
      have k4 := hd.c4
      have hlk := hd.map.look (by omega) j hjk
      have hj1 : decide ((j : Int) < (d.kept.length : Int)) = true := decide_eq_true (by omega)
      have hol := ho
      have hll := looseN_len d.loose j
      unfold OI at hol
      obtain ⟨A1, c1, rfl, hl1, hA1⟩ := ho.form
      clear hd
      cases hs : (d.loose j).isSome with
      | true =>
        rw [hs] at hlk
        have hln := looseN_some hs
        go_wp2_with (at_builtin; (refine wpList_app _ rfl _ _ 23 rfl w.heap.size 3 _ 1 8 Try.underlying23 info_i64 rfl (by decide) _ _ _ rfl (World.ownsRow.alloc hol _) (some ⟨wr.heap.size, 0, none⟩) 1 1 [.int .i64 j] rfl rfl (Lies.new wr 3 _ (0, 0)) (by intro u hu; cases List.mem_singleton.1 hu; rfl) (by simp) ?c1 ?c2 ?c3 ?_))
        case c1 => rw [show maxLen = 9223372036854775807 from rfl]; omega
        case c2 => omega
        case c3 => have := hb.size; simp; omega
        intro v3 w3 hown3 hg3 _
        have ho3 : OI w3 w.heap.size v3 (looseN d.loose (j + 1)) := OI.mk hown3 (by rw [hln]; simp) (by rw [hln]; simp)
        have hb3 : Below w.heap.size w w3 := (hb.alloc hb.size _).grown hg3 (by have := hb.size; simp; omega) (by intro k hk; exact (World.ownsRow.lt hol k hk).1)
        go_wp2
        go_roundg (d.kept.length - (j + 1))
        case measure => omega
        case rel => exact ⟨j + 1, by omega, by go_num, ho3, hb3⟩
      | false =>
        rw [hs] at hlk
        have hln := looseN_none hs
        go_wp2
        go_roundg (d.kept.length - (j + 1))
        case measure => omega
        case rel => exact ⟨j + 1, by omega, by go_num, by rw [hln]; exact ho, hb⟩
    · obtain rfl : j = d.kept.length := by omega
      go_wp2
      go_ret
      exact ⟨_, rfl, ho, hb⟩
end Go.Proofs.Ytjfpanamkkdebaa
