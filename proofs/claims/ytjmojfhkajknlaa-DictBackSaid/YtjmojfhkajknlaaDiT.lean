/- The walk of the law of where any word stands in a dictionary. -/
import Derived.Test.YtjmojfhkajknlaaDiS
namespace Go.Proofs.Ytjmojfhkajknlaa
open Go.RowKit
set_option linter.unusedVariables false
set_option linter.unusedSimpArgs false
theorem seek_all (g : Nat) (l : List (List UInt8)) (s : ByteArray) (m : Nat) (w : World) (hd : DOk w g l) (hck : chk [] l = true) (hm : l.length ≤ 16384) (hb : Bnd l (lessP (by8 s)) m) :
    Calls Try.prog 20 #[.pointer (some ⟨g, 0, none⟩), .string s] w fun e w' => e = .returned (.tuple #[.int .i64 m, .bool (l.contains (by8 s))]) ∧ Below w.heap.size w w' := by
  by_cases hne : l = []
  · subst hne
    have : m = 0 := by have := hb.le; simpa using this
    subst this
    exact emp_seek _ s w (.inr ⟨g, rfl, hd⟩)
  · exact seek_any g l s m w hd hne hck hm hb
theorem range_all (g : Nat) (l : List (List UInt8)) (s : ByteArray) (m r : Nat) (w : World) (hd : DOk w g l) (hck : chk [] l = true) (hm : l.length ≤ 16384) (hb : Bnd l (lessP (by8 s)) m) (hr : Bnd (l.drop m) (begins (by8 s)) r) :
    Calls Try.prog 22 #[.pointer (some ⟨g, 0, none⟩), .string s] w fun e w' => e = .returned (.tuple #[.int .i64 m, .int .i64 (m + r : Nat)]) ∧ Below w.heap.size w w' := by
  by_cases hne : l = []
  · subst hne
    have : m = 0 := by have := hb.le; simpa using this
    subst this
    have : r = 0 := by have := hr.le; simpa using this
    subst this
    exact emp_range _ s w (.inr ⟨g, rfl, hd⟩)
  · exact range_any g l s m r w hd hne hck hm hb hr
theorem countP_snoc {α : Type} (p : α → Bool) (l : List α) (x : α) : (l ++ [x]).countP p = l.countP p + if p x then 1 else 0 := by
  rw [List.countP_append, List.countP_singleton]
theorem contains_snoc (l : List (List UInt8)) (x y : List UInt8) : (l ++ [x]).contains y = (l.contains y || x == y) := by
  rw [Bool.eq_iff_iff]
  simp only [List.contains_iff_mem, List.mem_append, List.mem_singleton, Bool.or_eq_true, beq_iff_eq]
  constructor
  · rintro (h | h)
    · exact .inl h
    · exact .inr h.symm
  · rintro (h | h)
    · exact .inl h
    · exact .inr h.symm
set_option maxHeartbeats 1600000 in
theorem rbelow_any (A : Option Addr) (c : Nat) (ws : List ByteArray) (s : ByteArray) (w : World) (hr : Lies w A (ws.map Value.string)) (hm : ws.length ≤ 16384) :
    Calls Try.prog 21 #[.slice A ws.length c, .string s] w fun e w' => e = .returned (.tuple #[.int .i64 ((wl ws).countP (lessP (by8 s)) : Nat), .bool ((wl ws).contains (by8 s))]) ∧ w = w' := by
  have HR := Lib.hid hr
  have HE : Hid (wl (ws.take ws.length) = wl ws) := by show _ = _; rw [List.take_length]
  clear hr
  obtain ⟨N, hN⟩ : ∃ N, N = (wl ws).countP (lessP (by8 s)) := ⟨_, rfl⟩
  obtain ⟨T, hT⟩ : ∃ T, T = (wl ws).contains (by8 s) := ⟨_, rfl⟩
  rw [← hN, ← hT]
  have HN := Lib.hid hN
  have HT := Lib.hid hT
  clear hN hT
  go_enter Try.func21, Try.ntmps21
  go_wp2
  go_loopg [6, 7, 12] ws.length (fun r n t i wr => ∃ (j m : Nat) (b : Bool), j + r = ws.length ∧ i = .int .i64 j ∧ n = .int .i64 m ∧ t = .bool b ∧ m ≤ j ∧ Hid (m = (wl (ws.take j)).countP (lessP (by8 s))) ∧ Hid (b = (wl (ws.take j)).contains (by8 s)) ∧ wr = w)
  case atStart => exact ⟨0, 0, false, by omega, rfl, rfl, rfl, by omega, Lib.hid rfl, Lib.hid rfl, rfl⟩
  case round =>
    obtain ⟨j, m, b, hj, rfl, rfl, rfl, hmj, hmc, hbc, rfl⟩ := hrel
    by_cases hjn : j < ws.length
    · obtain ⟨a, rfl, hc⟩ := HR.out.at (k := j) (by simpa using hjn)
      rw [List.getElem_map] at hc
      have HW := wl_snoc hjn
      have HC : Hid ((wl (ws.take (j + 1))).countP (lessP (by8 s)) = m + if lessP (by8 s) (by8 ws[j]) then 1 else 0) := by show _ = _; rw [HW, countP_snoc, ← hmc.out]
      have HB : Hid ((wl (ws.take (j + 1))).contains (by8 s) = (b || by8 ws[j] == by8 s)) := by show _ = _; rw [HW, contains_snoc, ← hbc.out]
      clear HW hmc hbc
      generalize ws[j] = x at hc HC HB
      have hl : Op.bytesLess x.toList s.toList = lessP (by8 s) (by8 x) := by rw [by8_to, by8_to]; rfl
      have he : (x.toList == s.toList) = (by8 x == by8 s) := by rw [by8_to, by8_to]
      generalize lessP (by8 s) (by8 x) = p at hl HC
      generalize (by8 x == by8 s) = q at he HB
      cases p <;> cases b <;> cases q
      all_goals
        go_wp2
        go_roundg (ws.length - (j + 1))
        case measure => omega
        case rel => first
          | exact ⟨j + 1, m + 1, true, by omega, by go_num, by go_num, rfl, by omega, Lib.hid (by rw [HC.out]; rfl), Lib.hid (by rw [HB.out]; rfl), rfl⟩
          | exact ⟨j + 1, m + 1, false, by omega, by go_num, by go_num, rfl, by omega, Lib.hid (by rw [HC.out]; rfl), Lib.hid (by rw [HB.out]; rfl), rfl⟩
          | exact ⟨j + 1, m, true, by omega, by go_num, rfl, rfl, by omega, Lib.hid (by rw [HC.out]; rfl), Lib.hid (by rw [HB.out]; rfl), rfl⟩
          | exact ⟨j + 1, m, false, by omega, by go_num, rfl, rfl, by omega, Lib.hid (by rw [HC.out]; rfl), Lib.hid (by rw [HB.out]; rfl), rfl⟩
    · obtain rfl : j = ws.length := by omega
      have HM : Hid (m = N) := by show _ = _; rw [hmc.out, HE.out, ← HN.out]
      have HB : Hid (b = T) := by show _ = _; rw [hbc.out, HE.out, ← HT.out]
      clear hmc hbc
      go_wp2
      go_ret2
      exact ⟨by rw [← HM.out, ← HB.out]; rfl, rfl⟩
set_option maxHeartbeats 3200000 in
theorem dictFinds_walk (A : Option Addr) (c : Nat) (ws : List ByteArray) (s : ByteArray) (w : World) (hr : Lies w A (ws.map Value.string)) (hA : A = none → c = 0) (hlc : ws.length ≤ c) (hm : ws.length ≤ 9223372036854775807) (_hs : s.size ≤ 140737488351232) :
    Calls Try.prog 5 #[.slice A ws.length c, .string s] w fun e w' => e = .returned (.bool true) ∧ Below w.heap.size w w' := by
  have HF : Hid (∀ w', Below w.heap.size w w' → Calls Try.prog 7 #[.slice A ws.length c] w' (YesNo w')) := fun w' hb => few_any A c ws w' (hr.below hb) hm
  have HB := Lib.hid (build_any A c ws w hr hm)
  have HAw : Hid (∀ w', Below w.heap.size w w' → Calls Try.prog 8 #[] w' fun e w'' => e = .returned (.bool true) ∧ Below w.heap.size w w'') :=
    fun w' hb => (dawake_any w').mono fun e w'' ⟨h1, h2⟩ => ⟨h1, hb.trans (h2.mono hb.size)⟩
  have HR := Lib.hid hr
  clear hr hA _hs
  go_enter Try.func5, Try.ntmps5
  go_wp2_with fail
  refine HB.out.mono ?_
  rintro e w1 ⟨hb, ⟨h0, g, vH, vB, rfl, hd, hg⟩ | ⟨h0, rfl⟩⟩
  · go_wp2_with fail
    refine (HF.out _ hb).mono ?_
    rintro e w' ⟨b, rfl, rfl⟩
    cases b with
    | false =>
      have HA2 := Lib.hid (HAw.out _ hb)
      go_wp2_with (go_at_call 8; refine HA2.out.mono ?_; rintro e w5 ⟨rfl, hb5⟩)
      go_ret
      exact ⟨rfl, hb5⟩
    | true =>
      have hw := whyNot_zero h0
      obtain ⟨m, hm1⟩ := bnd_less hw.2 (by8 s)
      obtain ⟨r, hr1⟩ := bnd_begins hw.2 hm1
      have hok := hd.ok
      have hll : ws.length ≤ 16384 := by rw [← wl_length]; exact hw.1
      have hcm := hm1.count
      have hcr := count_begins hm1 hr1
      have hml := hm1.le
      have hrl := hr1.le
      rw [List.length_drop, wl_length] at hrl
      rw [wl_length] at hml
      have HSk := Lib.hid (seek_all g _ s m w1 hok hw.2 hw.1 hm1)
      have HRg : Hid (∀ w', Below w1.heap.size w1 w' → Calls Try.prog 22 #[.pointer (some ⟨g, 0, none⟩), .string s] w' fun e w'' => e = .returned (.tuple #[.int .i64 m, .int .i64 (m + r : Nat)]) ∧ Below w'.heap.size w' w'') := fun w' hb' => range_all g _ s m r w' (hok.below hb') hw.2 hw.1 hm1 hr1
      have HBl : Hid (∀ w', Below w.heap.size w w' → Calls Try.prog 21 #[.slice A ws.length c, .string s] w' fun e w'' => e = .returned (.tuple #[.int .i64 m, .bool ((wl ws).contains (by8 s))]) ∧ w' = w'') := by
        intro w' hb'
        have := rbelow_any A c ws s w' (HR.out.below hb') hll
        rwa [hcm] at this
      generalize (wl ws).contains (by8 s) = q at HSk HBl
      have HCr : Hid ((wl (ws.take ws.length)).countP (begins (by8 s)) = r) := by show _ = _; rw [List.take_length]; exact hcr
      clear h0 hd hg hw hm1 hr1 hok hcm hcr HB HF
      go_wp2_with fail
      refine HSk.out.mono ?_
      rintro e w2 ⟨rfl, hb2⟩
      have hb02 := hb.trans (hb2.mono hb.size)
      go_wp2_with fail
      refine (HBl.out _ hb02).mono ?_
      rintro e w' ⟨rfl, rfl⟩
      go_wp2_with fail
      refine (HRg.out _ hb2).mono ?_
      rintro e w3 ⟨rfl, hb3⟩
      have hb03 := hb02.trans (hb3.mono hb02.size)
      clear HSk HBl HRg hb2 hb3 hb02 hb
      have HL3 := Lib.hid (HR.out.below hb03)
      go_wp2
      go_loopg [13, 49] ws.length (fun x n i wr => ∃ (j k : Nat), j + x = ws.length ∧ i = .int .i64 j ∧ n = .int .i64 k ∧ k ≤ j ∧ Hid (k = (wl (ws.take j)).countP (begins (by8 s))) ∧ wr = w3)
      case atStart => exact ⟨0, 0, by omega, rfl, rfl, by omega, Lib.hid rfl, rfl⟩
      case round =>
        obtain ⟨j, k, hj, rfl, rfl, hkj, hkc, rfl⟩ := hrel
        by_cases hjn : j < ws.length
        · obtain ⟨a, rfl, hc⟩ := HL3.out.at (k := j) (by simpa using hjn)
          rw [List.getElem_map] at hc
          have HC : Hid ((wl (ws.take (j + 1))).countP (begins (by8 s)) = k + if begins (by8 s) (by8 ws[j]) then 1 else 0) := by show _ = _; rw [wl_snoc hjn, countP_snoc, ← hkc.out]
          generalize ws[j] = x at hc HC
          have HBg := Lib.hid (rbegins_any x s wr)
          generalize begins (by8 s) (by8 x) = p at HC HBg
          clear hkc
          cases p
          all_goals
            go_wp2_with (go_at_call 23; refine HBg.out.mono ?_; rintro e w' ⟨rfl, rfl⟩)
            go_roundg (ws.length - (j + 1))
            case measure => omega
            case rel => first
              | exact ⟨j + 1, k + 1, by omega, by go_num, by go_num, by omega, Lib.hid (by rw [HC.out]; rfl), rfl⟩
              | exact ⟨j + 1, k, by omega, by go_num, rfl, by omega, Lib.hid (by rw [HC.out]; rfl), rfl⟩
        · obtain rfl : j = ws.length := by omega
          obtain rfl : k = r := by rw [hkc.out, HCr.out]
          have HA2 := Lib.hid (HAw.out _ hb03)
          clear hkc HCr
          go_wp2_with (go_at_call 8; refine HA2.out.mono ?_; rintro e w5 ⟨rfl, hb5⟩)
          go_ret
          exact ⟨rfl, hb5⟩
  · have h0i : ((whyNot (wl ws) : Nat) : Int) ≠ 0 := by omega
    have hq : (((whyNot (wl ws) : Nat) : Int) != 0) = true := bne_iff_ne.mpr h0i
    generalize whyNot (wl ws) = N at hq h0i
    go_wp2_with fail
    refine (HF.out _ hb).mono ?_
    rintro e w' ⟨b, rfl, rfl⟩
    have HA2 := Lib.hid (HAw.out _ hb)
    cases b
    all_goals
      go_wp2_with (go_at_call 8; refine HA2.out.mono ?_; rintro e w5 ⟨rfl, hb5⟩)
      go_ret
      exact ⟨rfl, hb5⟩
end Go.Proofs.Ytjmojfhkajknlaa
