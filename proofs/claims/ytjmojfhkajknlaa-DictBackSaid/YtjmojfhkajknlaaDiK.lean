/- What the laws of dictionaries ask besides: are words few, may they be, are texts alike; the example. -/
import Derived.Test.YtjmojfhkajknlaaDiF
import Derived.Test.YtjmojfhkajknlaaDiJ
namespace Go.Proofs.Ytjmojfhkajknlaa
open Go.RowKit
set_option linter.unusedVariables false
set_option linter.unusedSimpArgs false
theorem wl_vs (ws : List ByteArray) : (wl ws).map vs = ws.map Value.string := by
  unfold wl
  rw [List.map_map]
  exact List.map_congr_left fun s _ => vs_by8 s
set_option maxHeartbeats 800000 in
theorem sequal_any (A B : Option Addr) (c d : Nat) (l : List (List UInt8)) (w : World) (hr : Lies w A (l.map vs)) (hs : Lies w B (l.map vs)) (hm : l.length ≤ 9223372036854775807) :
    Calls Try.prog 13 #[.slice A l.length c, .slice B l.length d] w fun e w' => e = .returned (.bool true) ∧ ∃ q, w' = w.drewN q := by
  have HR := Lib.hid hr
  have HS := Lib.hid hs
  clear hr hs
  go_enter Try.func13, Try.ntmps13
  go_wp2
  go_loopg [13] l.length (fun r i wr => ∃ j q : Nat, j + r = l.length ∧ i = .int .i64 j ∧ wr = w.drewN q)
  case atStart => exact ⟨0, 0, by omega, rfl, rfl⟩
  case round =>
    obtain ⟨j, q, hj, rfl, rfl⟩ := hrel
    by_cases hjn : j < l.length
    · obtain ⟨a, rfl, hc⟩ := HR.out.at (k := j) (by simpa using hjn)
      obtain ⟨b, rfl, hd⟩ := HS.out.at (k := j) (by simpa using hjn)
      rw [List.getElem_map] at hc hd
      generalize l[j] = x at hc hd
      unfold vs at hc hd
      have h0 : (0 : Int) ≤ (j : Int) := by omega
      have h1 : (j : Int) < (l.length : Int) := by omega
      go_wp2_with fail
      go_quiet (fail)
      go_wp2
      go_roundg (l.length - (j + 1))
      case measure => omega
      case rel => exact ⟨j + 1, q + nq, by omega, by go_num, by first | rfl | rw [World.drewN_drewN]⟩
    · obtain rfl : j = l.length := by omega
      go_wp2
      go_ret
      exact ⟨rfl, q, rfl⟩
/-- It answers yes or no, and leaves all as it was. -/
def YesNo (w : World) (e : Ending) (w' : World) : Prop := ∃ b : Bool, e = .returned (.bool b) ∧ w = w'
set_option maxHeartbeats 800000 in
theorem few_any (A : Option Addr) (c : Nat) (ws : List ByteArray) (w : World) (hr : Lies w A (ws.map Value.string)) (hm : ws.length ≤ 9223372036854775807) :
    Calls Try.prog 7 #[.slice A ws.length c] w (YesNo w) := by
  have HR := Lib.hid hr
  clear hr
  go_enter Try.func7, Try.ntmps7
  go_wp2
  go_loopg [3, 4] (121 : Nat) (fun r n i wr => ∃ (j : Nat) (m : Nat), j + r = 121 ∧ j ≤ ws.length ∧ i = .int .i64 j ∧ n = .int .i64 m ∧ m ≤ 8192 * j ∧ wr = w)
  case atStart => exact ⟨0, 0, by omega, by omega, rfl, rfl, by omega, rfl⟩
  case round =>
    obtain ⟨j, m, hj, hjw, rfl, rfl, hm2, rfl⟩ := hrel
    by_cases hjn : j < ws.length
    · by_cases h121 : j ≤ 120
      · obtain ⟨a, rfl, hc⟩ := HR.out.at (k := j) (by simpa using hjn)
        rw [List.getElem_map] at hc
        generalize ws[j] = s at hc
        have hq1 : decide (j < ws.length) = true := decide_eq_true hjn
        have hq2 : decide ((j : Int) ≤ 120) = true := decide_eq_true (by omega)
        obtain ⟨z, hz⟩ : ∃ z : Nat, z = min s.size 8192 := ⟨_, rfl⟩
        have hz1 : min (s.size : Int) 8192 = (z : Int) := by omega
        have hz2 : z ≤ 8192 := by omega
        clear hz
        go_wp2
        go_roundg (121 - (j + 1))
        case measure => omega
        case rel => exact ⟨j + 1, m + z, by omega, by omega, by go_num, by go_num, by omega, rfl⟩
      · have hq1 : decide (j < ws.length) = true := decide_eq_true hjn
        have hq2 : decide ((j : Int) ≤ 120) = false := decide_eq_false (by omega)
        go_wp2
        all_goals go_ret
        all_goals exact ⟨_, rfl, rfl⟩
    · have hq1 : decide (j < ws.length) = false := decide_eq_false hjn
      go_wp2
      all_goals go_ret
      all_goals exact ⟨_, rfl, rfl⟩
set_option maxHeartbeats 1600000 in
theorem check_any (A : Option Addr) (c : Nat) (ws : List ByteArray) (w : World) (hr : Lies w A (ws.map Value.string)) (hm : ws.length ≤ 9223372036854775807) :
    Calls Try.prog 10 #[.slice A ws.length c] w fun e w' => e = .returned (.int .i64 (whyNot (wl ws))) ∧ w = w' := by
  by_cases h5 : 16384 < ws.length
  · have hq : (ws.length : Int) > 16384 := by omega
    have e5 : whyNot (wl ws) = 5 := by unfold whyNot; rw [wl_length, if_pos h5]
    rw [e5]
    go_enter Try.func10, Try.ntmps10
    go_wp2
    go_ret
    exact ⟨rfl, rfl⟩
  have hq : ¬ ((ws.length : Int) > 16384) := by omega
  have HE5 : Hid (whyNot (wl ws) = if chk [] (wl ws) = true then 0 else 1) := by show _ = _; unfold whyNot; rw [wl_length, if_neg h5]
  have HR := Lib.hid hr
  have HC1 : Hid (chk [] (wl ws) = true → whyNot (wl ws) = 0) := fun h => by rw [HE5.out, if_pos h]
  have HC2 : Hid (chk [] (wl ws) = false → whyNot (wl ws) = 1) := fun h => by rw [HE5.out, h]; rfl
  have HTl : Hid (wl (ws.take ws.length) = wl ws) := by show _ = _; rw [List.take_length]
  clear hr HE5
  generalize hN : whyNot (wl ws) = N at HC1 HC2 ⊢
  clear hN
  go_enter Try.func10, Try.ntmps10
  go_wp2
  go_loopg [10] ws.length (fun r i wr => ∃ (j : Nat), j + r = ws.length ∧ i = .int .i64 j ∧ Hid (chk [] (wl (ws.take j)) = true) ∧ wr = w)
  case atStart => exact ⟨0, by omega, rfl, Lib.hid rfl, rfl⟩
  case round =>
    obtain ⟨j, hj, rfl, hck, rfl⟩ := hrel
    by_cases hjn : j < ws.length
    · obtain ⟨a, rfl, hc⟩ := HR.out.at (k := j) (by simpa using hjn)
      rw [List.getElem_map] at hc
      have HW := Lib.hid (wl_snoc hjn)
      obtain ⟨last, hlast⟩ : ∃ last, last = lastW [] (wl (ws.take j)) := ⟨_, rfl⟩
      have HNo : Hid (fitsB last (by8 ws[j]) = false → N = 1) := by
        intro h
        refine HC2.out ?_
        have e := chk_append (wl (ws.take (j + 1))) ((wl ws).drop (j + 1)) []
        rw [← wl_take, List.take_append_drop, wl_take, HW.out, chk_append] at e
        rw [e, ← hlast, chk, h]; simp
      have HYes : Hid (fitsB last (by8 ws[j]) = true → chk [] (wl (ws.take (j + 1))) = true) := by
        intro h
        rw [HW.out, chk_append, hck.out, ← hlast, chk, h]; rfl
      have HPrev : Hid (∀ k, j = k + 1 → ∃ p : ByteArray, wr.cell? (a.add k) = some (.string p) ∧ by8 p = last) := by
        rintro k rfl
        obtain ⟨a2, ha2, hc2⟩ := HR.out.at (k := k) (by rw [List.length_map]; omega)
        rw [List.getElem_map] at hc2
        injection ha2 with ha2
        subst ha2
        exact ⟨_, hc2, by rw [hlast, wl_snoc (by omega), lastW_snoc]⟩
      have HZero : Hid (j = 0 → last = []) := by rintro rfl; rw [hlast]; rfl
      clear hlast HC1 HC2 HW
      generalize ws[j] = s at hc HNo HYes
      have hnil : (s.toList == ([] : List UInt8)) = (by8 s == []) := by rw [by8_to]
      by_cases hs : s.size ≤ 64
      · have hs64 : ¬ ((s.size : Int) > 64) := by omega
        have hq2 : decide ((s.size : Int) > 64) = false := decide_eq_false hs64
        by_cases hn : by8 s = []
        · have hq3 : (s.toList == ([] : List UInt8)) = true := by rw [hnil, hn]; rfl
          have HE := Lib.hid (HNo.out (by unfold fitsB; rw [hn, bl_nil]; rfl))
          clear hnil HNo HYes HPrev HZero hn
          go_wp2
          go_ret
          rw [HE.out]
          exact ⟨rfl, rfl⟩
        · have hq3 : (s.toList == ([] : List UInt8)) = false := by rw [hnil, beq_eq_false_iff_ne]; exact hn
          by_cases hj0 : j = 0
          · have hz := HZero.out hj0
            subst hz
            have hfit : fitsB [] (by8 s) = true := by
              unfold fitsB
              rw [by8_size, decide_eq_true hs]
              cases e : by8 s with
              | nil => exact absurd e hn
              | cons x y => rfl
            have HS := Lib.hid (HYes.out hfit)
            have hjz : ¬ ((j : Int) > 0) := by omega
            have hjq : decide ((j : Int) > 0) = false := decide_eq_false hjz
            have hjq2 : decide (0 < j) = false := decide_eq_false (by omega)
            clear hnil HNo HYes HPrev HZero hn hfit hck hj0
            go_wp2
            go_roundg (ws.length - (j + 1))
            case measure => omega
            case rel => exact ⟨j + 1, by omega, by go_num, HS, rfl⟩
          · obtain ⟨k, hk⟩ : ∃ k, j = k + 1 := ⟨j - 1, by omega⟩
            obtain ⟨p, hcp, hp⟩ := HPrev.out k hk
            subst hp
            have hle : (Op.bytesLess s.toList p.toList || s.toList == p.toList) = !Op.bytesLess (by8 p) (by8 s) := by
              rw [by8_to, by8_to]; exact le8_iff
            have hk1 : ((j : Int) > 0) := by omega
            have hkq : decide ((j : Int) > 0) = true := decide_eq_true hk1
            have hkq2 : decide (0 < j) = true := decide_eq_true (by omega)
            have hks : (j : Int) - 1 = (k : Int) := by omega
            have hki : (k : Int) < (ws.length : Int) := by omega
            have hwk : IntKind.i64.wrap (k : Int) = (k : Int) := by rw [IntKind.wrap_i64]; omega
            by_cases hf : Op.bytesLess (by8 p) (by8 s) = true
            · rw [hf] at hle
              have hfit : fitsB (by8 p) (by8 s) = true := by
                unfold fitsB
                rw [hf, by8_size, decide_eq_true hs]; rfl
              have HS := Lib.hid (HYes.out hfit)
              clear hnil HNo HYes HPrev HZero hn hfit hck hf hj0 hk
              go_wp2
              go_roundg (ws.length - (j + 1))
              case measure => omega
              case rel => exact ⟨j + 1, by omega, by go_num, HS, rfl⟩
            · have hf := Bool.eq_false_iff.2 hf
              rw [hf] at hle
              have HE := Lib.hid (HNo.out (by unfold fitsB; rw [hf]; rfl))
              clear hnil HNo HYes HPrev HZero hn hck hf hj0 hk
              go_wp2
              go_ret
              rw [HE.out]
              exact ⟨rfl, rfl⟩
      · have hs64 : (s.size : Int) > 64 := by omega
        have hq2 : decide ((s.size : Int) > 64) = true := decide_eq_true hs64
        have HE := Lib.hid (HNo.out (by unfold fitsB; rw [by8_size, decide_eq_false hs, Bool.and_false]))
        clear hnil HNo HYes HPrev HZero hck
        go_wp2
        go_ret
        rw [HE.out]
        exact ⟨rfl, rfl⟩
    · obtain rfl : j = ws.length := by omega
      rw [HTl.out] at hck
      have HE := Lib.hid (HC1.out hck.out)
      clear hck
      go_wp2
      go_ret
      rw [HE.out]
      exact ⟨rfl, rfl⟩
end Go.Proofs.Ytjmojfhkajknlaa
