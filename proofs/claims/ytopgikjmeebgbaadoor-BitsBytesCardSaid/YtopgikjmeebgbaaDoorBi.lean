/- List; equal numbers. -/
import Derived.Test.YtopgikjmeebgbaaDoorBh
namespace Go.Proofs.YtopgikjmeebgbaaDoor
open Go.RowKit
set_option linter.unusedVariables false
set_option linter.unusedSimpArgs false
theorem info_i64 : (Tryd.prog.info? 3).map (fun i => (i.zero, i.size, i.bytes)) = some (some (.int .i64 0), 1, 8) := by kernel_rfl
/-- Numbers that the call itself made. -/
def OI (w : World) (base : Nat) (v : Value) (l : List Int) : Prop := w.ownsRow base 3 1 v l.length (l.map (Value.int .i64))
theorem OI.form {w : World} {base : Nat} {v : Value} {l : List Int} (h : OI w base v l) : ∃ A c, v = .slice A l.length c ∧ l.length ≤ c ∧ (A = none → c = 0) := by
  rcases h.2 with ⟨rfl, h0⟩ | ⟨g, cap, cur, rfl, _, _, h, _⟩
  · exact ⟨_, _, by rw [h0], by omega, fun _ => rfl⟩
  · exact ⟨_, _, rfl, h, fun h => by cases h⟩
theorem OI.below {w w' : World} {base : Nat} {v : Value} {l : List Int} (h : OI w base v l) (hb : Below w.heap.size w w') : OI w' base v l := by
  refine World.ownsRow.kept h (row := none) ⟨hb.os, hb.tape, hb.output, hb.size, fun k hk _ => hb.block k hk⟩ ?_
  cases v.ownBlock <;> simp
theorem OI.mk {w : World} {base n : Nat} {v : Value} {xs : List Value} {l : List Int} (h : w.ownsRow base 3 1 v n xs) (hn : n = l.length) (hx : xs = l.map (Value.int .i64)) : OI w base v l := by
  subst hn
  subst hx
  exact h
theorem OI.mono {w : World} {base base' : Nat} {v : Value} {l : List Int} (h : OI w base v l) (hb : base' ≤ base) : OI w base' v l := by
  refine ⟨h.1, ?_⟩
  rcases h.2 with h | ⟨g, cap, cur, hv, hg, r⟩
  · exact .inl h
  · exact .inr ⟨g, cap, cur, hv, Nat.le_trans hb hg, r⟩
set_option maxHeartbeats 800000 in
/-- The library's Equal of the same whole numbers. -/
theorem iequal_any (A B : Option Addr) (c d : Nat) (l : List Int) (w : World) (hlc : l.length ≤ c) (hld : l.length ≤ d) (hr : Lies w A (l.map (Value.int .i64))) (hs : Lies w B (l.map (Value.int .i64))) (hm : l.length ≤ 65536) :
    Calls Tryd.prog 35 #[.slice A l.length c, .slice B l.length d] w fun e w' => e = .returned (.bool true) ∧ Below w.heap.size w w' := by
  go_enter Tryd.func35, Tryd.ntmps35
  go_wp2
  go_loopg [13] l.length (fun r i wr => ∃ j : Nat, j + r = l.length ∧ i = .int .i64 j ∧ Below w.heap.size w wr)
  case atStart => exact ⟨0, by omega, rfl, Below.refl _ _⟩
  case round =>
    obtain ⟨j, hj, rfl, hb⟩ := hrel
    by_cases hjk : j < l.length
    · obtain ⟨a, rfl, hc⟩ := (hr.below hb).at (k := j) (by simpa using hjk)
      obtain ⟨b, rfl, hc2⟩ := (hs.below hb).at (k := j) (by simpa using hjk)
      rw [List.getElem_map] at hc hc2
      generalize l[j] = x at hc hc2
      have hj1 : ((j : Nat) : Int) < l.length := by omega
      go_wp2_with fail
      go_quiet (fail)
      go_wp2
      go_roundg (l.length - (j + 1))
      case measure => omega
      case rel => exact ⟨j + 1, by omega, by go_num, below_drewN hb _⟩
    · obtain rfl : j = l.length := by omega
      go_wp2
      go_ret
      exact ⟨rfl, hb⟩
set_option maxHeartbeats 1600000 in
theorem list_any (g W : Nat) (bs : List Bool) (w : World) (h : SetAt w g W bs) (hT : Tab w) :
    Calls Tryd.prog 29 #[.pointer (some ⟨g, 0, none⟩)] w fun e w' => ∃ o, e = .returned o ∧ OI w' w.heap.size o (idx bs 0) ∧ Below w.heap.size w w' := by
  have HX := Lib.hid (fun (w' : World) (hb : Below w.heap.size w w') (i : Int) => next_any g W bs i w' (h.below hb) (hT.below hb))
  have HS := Lib.hid h.small
  have HI := Lib.hid (fun (k : Nat) => idx_nxt bs.length bs k (by omega))
  have HL := Lib.hid (fun (k : Nat) => idx_len_le bs k)
  have H0 := HX.out w (Below.refl _ _) 0
  rw [show (0 : Int).toNat = 0 from rfl] at H0
  have H0 := Lib.hid H0
  clear h hT
  go_enter Tryd.func29, Tryd.ntmps29
  go_wp2_with (go_at_call 13; refine H0.out.mono ?_; rintro e w' ⟨rfl, rfl⟩)
  go_loopg [3, 4] (bs.length + 1) (fun r o i wr => ∃ (k : Nat) (l : List Int), k + r = bs.length + 1 ∧ i = .int .i64 (nxt bs k) ∧ OI wr w.heap.size o l ∧ l ++ idx bs k = idx bs 0 ∧ Below w.heap.size w wr)
  case atStart => exact ⟨0, [], by omega, rfl, World.ownsRow_nil _ _ _ _, rfl, Below.refl _ _⟩
  case round =>
    obtain ⟨k, l, hk, rfl, ho, hl, hb⟩ := hrel
    rcases HI.out k with ⟨hn, hx⟩ | ⟨k2, hn, hk2, hlt, hx⟩
    · rw [hn]
      rw [hx, List.append_nil] at hl
      subst hl
      go_wp2
      go_ret
      exact ⟨_, rfl, ho, hb⟩
    · rw [hn]
      have hsm := HS.out
      have hll : l.length ≤ 65536 := by
        have h1 := HL.out 0
        rw [← hl, List.length_append] at h1
        omega
      have hl2 := Lib.hid (show (l ++ [(k2 : Int)]) ++ idx bs (k2 + 1) = idx bs 0 by rw [List.append_assoc, ← hl, hx]; rfl)
      clear hl hx hn
      have hol := ho
      unfold OI at hol
      obtain ⟨A1, c1, rfl, hl1, hA1⟩ := ho.form
      go_wp2_with (at_builtin; (refine wpList_app _ rfl _ _ 43 rfl w.heap.size 3 _ 1 8 Tryd.underlying43 info_i64 rfl (by decide) _ _ _ rfl (World.ownsRow.alloc hol _) (some ⟨wr.heap.size, 0, none⟩) 1 1 [.int .i64 k2] rfl rfl (Lies.new wr 3 _ (0, 0)) (by intro u hu; cases List.mem_singleton.1 hu; rfl) (by simp) ?c1 ?c2 ?c3 ?_))
      case c1 => rw [show maxLen = 9223372036854775807 from rfl]; omega
      case c2 => omega
      case c3 => have := hb.size; simp; omega
      intro v3 w3 hown3 hg3 _
      have ho3 : OI w3 w.heap.size v3 (l ++ [(k2 : Int)]) := OI.mk hown3 (by simp) (by simp)
      have hb3 : Below w.heap.size w w3 := (hb.alloc hb.size _).grown hg3 (by have := hb.size; simp; omega) (by intro k hk; exact (World.ownsRow.lt hol k hk).1)
      have HN := HX.out w3 hb3 ((k2 : Int) + 1)
      rw [show ((k2 : Int) + 1).toNat = k2 + 1 by omega] at HN
      have HN := Lib.hid HN
      clear hown3 hg3 hol
      go_wp2_with (go_at_call 13; refine HN.out.mono ?_; rintro e w' ⟨rfl, rfl⟩)
      go_roundg (bs.length + 1 - (k2 + 1))
      case measure => omega
      case rel => exact ⟨k2 + 1, l ++ [(k2 : Int)], by omega, rfl, ho3, hl2.out, hb3⟩
end Go.Proofs.YtopgikjmeebgbaaDoor
