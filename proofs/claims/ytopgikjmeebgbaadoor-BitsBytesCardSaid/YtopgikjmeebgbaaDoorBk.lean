/- The document's Rank, Next, List. -/
import Derived.Test.YtopgikjmeebgbaaDoorBj
namespace Go.Proofs.YtopgikjmeebgbaaDoor
open Go.RowKit
set_option linter.unusedVariables false
set_option linter.unusedSimpArgs false
theorem cnt_step (bs : List Bool) (k m : Nat) (hk : k < bs.length) : ((bs.take (k + 1)).take m).count true = ((bs.take k).take m).count true + (if bs[k] = true ∧ k < m then 1 else 0) := by
  rw [List.take_take, List.take_take]
  by_cases h : k < m
  · rw [show min m (k + 1) = k + 1 by omega, show min m k = k by omega, List.take_succ_eq_append_getElem hk, List.count_append]
    cases bs[k] <;> simp [h]
  · rw [show min m (k + 1) = m by omega, show min m k = m by omega, if_neg (fun e => h e.2), Nat.add_zero]
set_option maxHeartbeats 1600000 in
theorem rrank_any (g R : Nat) (bs : List Bool) (i : Int) (w : World) (h : RefAt w g R bs) :
    Calls Tryd.prog 21 #[.pointer (some ⟨g, 0, none⟩), .int .i64 i] w fun e w' => e = .returned (.int .i64 ((bs.take i.toNat).count true)) ∧ w = w' := by
  have h0 := h.c0
  have hsm := h.small
  have HB := Lib.hid h.bit
  clear h
  go_enter Tryd.func21, Tryd.ntmps21
  go_wp2
  go_loopg [5, 13] bs.length (fun r n j wr => wr = w ∧ ∃ k : Nat, k + r = bs.length ∧ j = .int .i64 k ∧ n = .int .i64 (((bs.take k).take i.toNat).count true))
  case atStart => exact ⟨rfl, 0, by omega, rfl, by rw [List.take_zero, List.take_nil]; rfl⟩
  case round =>
    obtain ⟨rfl, k, hk, rfl, rfl⟩ := hrel
    by_cases hkl : k < bs.length
    · have hb := HB.out k hkl
      have hki : (k : Int) < (bs.length : Int) := by omega
      have hc := Lib.hid (cnt_step bs k i.toNat hkl)
      have hle : ((bs.take k).take i.toNat).count true ≤ 65536 := Nat.le_trans (cnt_le _ _) (by rw [List.length_take]; omega)
      generalize ((bs.take k).take i.toNat).count true = s at hc hle
      generalize bs[k] = b at hb hc
      by_cases hlt : (k : Int) < i
      · have hd : decide ((k : Int) < i) = true := decide_eq_true hlt
        cases b with
        | true =>
          have hd2 := Lib.hid (hc.out.trans (show _ = s + 1 by rw [if_pos ⟨rfl, by omega⟩]))
          clear hc
          go_wp2
          go_roundg (bs.length - (k + 1))
          case measure => omega
          case rel => exact ⟨rfl, k + 1, by omega, by go_num, by rw [hd2.out]; go_num⟩
        | false =>
          have hd2 := Lib.hid (hc.out.trans (show _ = s by rw [if_neg (fun h => by cases h.1)]; rfl))
          clear hc
          go_wp2
          go_roundg (bs.length - (k + 1))
          case measure => omega
          case rel => exact ⟨rfl, k + 1, by omega, by go_num, by rw [hd2.out]⟩
      · have hd : decide ((k : Int) < i) = false := decide_eq_false hlt
        cases b with
        | true =>
          have hd2 := Lib.hid (hc.out.trans (show _ = s by rw [if_neg (fun h => hlt (by omega))]; rfl))
          clear hc
          go_wp2
          go_roundg (bs.length - (k + 1))
          case measure => omega
          case rel => exact ⟨rfl, k + 1, by omega, by go_num, by rw [hd2.out]⟩
        | false =>
          have hd2 := Lib.hid (hc.out.trans (show _ = s by rw [if_neg (fun h => by cases h.1)]; rfl))
          clear hc
          go_wp2
          go_roundg (bs.length - (k + 1))
          case measure => omega
          case rel => exact ⟨rfl, k + 1, by omega, by go_num, by rw [hd2.out]⟩
    · obtain rfl : k = bs.length := by omega
      rw [List.take_length]
      go_wp2
      go_ret
      exact ⟨rfl, rfl⟩
set_option maxHeartbeats 1600000 in
theorem rnext_any (g R : Nat) (bs : List Bool) (i : Int) (w : World) (h : RefAt w g R bs) :
    Calls Tryd.prog 22 #[.pointer (some ⟨g, 0, none⟩), .int .i64 i] w fun e w' => e = .returned (.int .i64 (nxt bs i.toNat)) ∧ w = w' := by
  have h0 := h.c0
  have hsm := h.small
  have HB := Lib.hid h.bit
  clear h
  generalize hz : nxt bs i.toNat = z
  have HZ := Lib.hid hz
  clear hz
  go_enter Tryd.func22, Tryd.ntmps22
  go_wp2
  go_loopg [12] bs.length (fun r j wr => wr = w ∧ ∃ k : Nat, k + r = bs.length ∧ j = .int .i64 k ∧ ∀ t, i.toNat ≤ t → t < k → bs[t]?.getD false = false)
  case atStart => exact ⟨rfl, 0, by omega, rfl, fun t _ h => by omega⟩
  case round =>
    obtain ⟨rfl, k, hk, rfl, hz⟩ := hrel
    have HP := Lib.hid hz
    clear hz
    by_cases hkl : k < bs.length
    · have hb := HB.out k hkl
      have hki : (k : Int) < (bs.length : Int) := by omega
      obtain ⟨b, hbe⟩ : ∃ b, b = bs[k] := ⟨_, rfl⟩
      have HBe := Lib.hid hbe
      rw [← hbe] at hb
      clear hbe
      by_cases hge : i ≤ (k : Int)
      · cases b with
        | true =>
          have hzz : z = (k : Int) := by
            rw [← HZ.out]
            exact nxt_hit bs i.toNat k (by omega) (by rw [List.getElem?_eq_getElem hkl, ← HBe.out]) (fun j h1 h2 => HP.out j h1 h2)
          subst hzz
          go_wp2
          go_ret
          exact ⟨rfl, rfl⟩
        | false =>
          go_wp2
          go_roundg (bs.length - (k + 1))
          case measure => omega
          case rel =>
            refine ⟨rfl, k + 1, by omega, by go_num, fun t h1 h2 => ?_⟩
            by_cases e : t = k
            · subst e; rw [List.getElem?_eq_getElem hkl, ← HBe.out]; rfl
            · exact HP.out t h1 (by omega)
      · have hlt : (k : Int) < i := by omega
        cases b <;>
        · go_wp2
          go_roundg (bs.length - (k + 1))
          case measure => omega
          case rel => exact ⟨rfl, k + 1, by omega, by go_num, fun t h1 h2 => HP.out t h1 (by omega)⟩
    · obtain rfl : k = bs.length := by omega
      have hzz : z = -1 := by
        rw [← HZ.out]
        refine nxt_none bs _ fun j hj => ?_
        by_cases h : j < bs.length
        · exact HP.out j hj h
        · rw [List.getElem?_eq_none (by omega)]; rfl
      subst hzz
      go_wp2
      go_ret
      exact ⟨rfl, rfl⟩
set_option maxHeartbeats 1600000 in
theorem rlist_any (g R : Nat) (bs : List Bool) (w : World) (h : RefAt w g R bs) :
    Calls Tryd.prog 46 #[.pointer (some ⟨g, 0, none⟩)] w fun e w' => ∃ o, e = .returned o ∧ OI w' w.heap.size o (idx bs 0) ∧ Below w.heap.size w w' := by
  have h0 := h.c0
  have hsm := h.small
  have HB := Lib.hid (fun (w' : World) (hb : Below w.heap.size w w') => (h.below hb).bit)
  have HI := Lib.hid (fun k hk => idx_step bs k hk)
  have HE := Lib.hid (idx_end bs bs.length (Nat.le_refl _))
  have HL := Lib.hid (idx_len_le bs 0)
  clear h
  go_enter Tryd.func46, Tryd.ntmps46
  go_wp2
  go_loopg [3, 11] bs.length (fun r o j wr => ∃ (k : Nat) (l : List Int), k + r = bs.length ∧ j = .int .i64 k ∧ OI wr w.heap.size o l ∧ l ++ idx bs k = idx bs 0 ∧ Below w.heap.size w wr)
  case atStart => exact ⟨0, [], by omega, rfl, World.ownsRow_nil _ _ _ _, rfl, Below.refl _ _⟩
  case round =>
    obtain ⟨k, l, hk, rfl, ho, hl, hbw⟩ := hrel
    by_cases hkl : k < bs.length
    · have hb := HB.out wr hbw k hkl
      have hki : (k : Int) < (bs.length : Int) := by omega
      have hst := HI.out k hkl
      have hll : l.length ≤ 65536 := by
        have h1 := HL.out
        rw [← hl, List.length_append] at h1
        omega
      generalize bs[k] = b at hb hst
      cases b with
      | true =>
        rw [if_pos rfl] at hst
        have hl2 := Lib.hid (show (l ++ [(k : Int)]) ++ idx bs (k + 1) = idx bs 0 by rw [List.append_assoc, ← hl, hst]; rfl)
        clear hl hst
        have hol := ho
        unfold OI at hol
        obtain ⟨A1, c1, rfl, hl1, hA1⟩ := ho.form
        go_wp2_with (at_builtin; (refine wpList_app _ rfl _ _ 43 rfl w.heap.size 3 _ 1 8 Tryd.underlying43 info_i64 rfl (by decide) _ _ _ rfl (World.ownsRow.alloc hol _) (some ⟨wr.heap.size, 0, none⟩) 1 1 [.int .i64 k] rfl rfl (Lies.new wr 3 _ (0, 0)) (by intro u hu; cases List.mem_singleton.1 hu; rfl) (by simp) ?c1 ?c2 ?c3 ?_))
        case c1 => rw [show maxLen = 9223372036854775807 from rfl]; omega
        case c2 => omega
        case c3 => have := hbw.size; simp; omega
        intro v3 w3 hown3 hg3 _
        have ho3 : OI w3 w.heap.size v3 (l ++ [(k : Int)]) := OI.mk hown3 (by simp) (by simp)
        have hb3 : Below w.heap.size w w3 := (hbw.alloc hbw.size _).grown hg3 (by have := hbw.size; simp; omega) (by intro k hk; exact (World.ownsRow.lt hol k hk).1)
        clear hown3 hg3 hol hb
        go_wp2
        go_roundg (bs.length - (k + 1))
        case measure => omega
        case rel => exact ⟨k + 1, l ++ [(k : Int)], by omega, by go_num, ho3, hl2.out, hb3⟩
      | false =>
        rw [if_neg (by decide)] at hst
        rw [hst] at hl
        have HL2 := Lib.hid hl
        clear hl hst
        go_wp2
        go_roundg (bs.length - (k + 1))
        case measure => omega
        case rel => exact ⟨k + 1, l, by omega, by go_num, ho, HL2.out, hbw⟩
    · obtain rfl : k = bs.length := by omega
      rw [HE.out, List.append_nil] at hl
      subst hl
      go_wp2
      go_ret
      exact ⟨_, rfl, ho, hbw⟩
end Go.Proofs.YtopgikjmeebgbaaDoor
