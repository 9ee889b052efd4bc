/- The document's Loose: the walk. -/
import Derived.Test.YtjfjeajbekhmdaaPgS
namespace Go.Proofs.Ytjfjeajbekhmdaa
open Go.RowKit Go.Maps
set_option linter.unusedVariables false
set_option linter.unusedSimpArgs false
theorem iss_at (d : Dsk) (i : Nat) (h : i < d.kept.length) : d.iss[i]? = some (d.loose i).isSome := by
  simp [Dsk.iss, h]
set_option maxHeartbeats 1600000 in
theorem rloose_any (g a b c x y z : Nat) (d : Dsk) (w : World) (h : RfAt w g a b c x y z d) (hN : d.kept.length ≤ 4096) :
    Calls Try.prog 34 #[.pointer (some ⟨g, 0, none⟩)] w fun e w' => ∃ v, e = .returned v ∧ OI w' w.heap.size v d.looseL ∧ Below w.heap.size w w' := by
  have k2 := h.c2
  have HD := Lib.hid h
  rw [looseL_eq]
  clear h
  go_enter Try.func34, Try.ntmps34
  go_wp2_with fail
  go_loopg [3, 11] d.kept.length (fun r o i wr => ∃ j : Nat, j + r = d.kept.length ∧ i = .int .i64 j ∧ OI wr w.heap.size o (looseN d.loose j) ∧ Below w.heap.size w wr)
  case atStart => exact ⟨0, by omega, rfl, World.ownsRow_nil _ _ _ _, Below.refl _ _⟩
  case round =>
    obtain ⟨j, hj, rfl, ho, hb⟩ := hrel
    by_cases hjk : j < d.kept.length
    · have hd := Rf.below HD.out hb
      have hlk := World.ownsRow.cellAt hd.ri j (by omega)
      rw [List.getElem?_map, iss_at d j hjk] at hlk
      simp only [Option.map_some] at hlk
      have hj0 : (0 : Int) ≤ (j : Int) := by omega
      have hj1 : (j : Int) < (d.kept.length : Int) := by omega
      have hol := ho
      have hll := looseN_len d.loose j
      unfold OI at hol
      obtain ⟨A1, c1, rfl, hl1, hA1⟩ := ho.form
      clear hd
      cases hs : (d.loose j).isSome with
      | true =>
        rw [hs] at hlk
        have hln := looseN_some hs
        go_wp2_with (at_builtin; (refine wpList_app _ rfl _ _ 33 rfl w.heap.size 3 _ 1 8 Try.underlying33 info_i64 rfl (by decide) _ _ _ rfl (World.ownsRow.alloc hol _) (some ⟨wr.heap.size, 0, none⟩) 1 1 [.int .i64 j] rfl rfl (Lies.new wr 3 _ (0, 0)) (by intro u hu; cases List.mem_singleton.1 hu; rfl) (by simp) ?c1 ?c2 ?c3 ?_))
        case c1 => rw [show maxLen = 9223372036854775807 from rfl]; omega
        case c2 => omega
        case c3 => have := hb.size; simp; omega
        intro v3 w3 hown3 hg3 _
        have ho3 : OI w3 w.heap.size v3 (looseN d.loose (j + 1)) := OI.mk hown3 (by rw [hln]; simp) (by rw [hln]; simp)
        have hb3 : Below w.heap.size w w3 := (hb.alloc hb.size _).grown hg3 (by have := hb.size; simp; omega) (by intro k hk; exact (World.ownsRow.lt hol k hk).1)
        go_wp2
        go_roundg (d.kept.length - (j + 1))
        case measure => omega
        case rel => exact ⟨j + 1, by omega, by go_num, ho3, hb3⟩
      | false =>
        rw [hs] at hlk
        have hln := looseN_none hs
        go_wp2
        go_roundg (d.kept.length - (j + 1))
        case measure => omega
        case rel => exact ⟨j + 1, by omega, by go_num, by rw [hln]; exact ho, hb⟩
    · obtain rfl : j = d.kept.length := by omega
      go_wp2
      go_ret
      exact ⟨_, rfl, ho, hb⟩
end Go.Proofs.Ytjfjeajbekhmdaa
