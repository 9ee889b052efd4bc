/- Are two devices the same: the walk. -/
import Derived.Test.YtjfjeajbekhmdaaPgZ
import Derived.Test.YtjfjeajbekhmdaaPgO
import Derived.Test.YtjfjeajbekhmdaaPhA
import Derived.Test.YtjfjeajbekhmdaaPgT
import Derived.Test.YtjfjeajbekhmdaaPgG
import Derived.Deep.Cut
namespace Go.Proofs.Ytjfjeajbekhmdaa
open Go.RowKit Go.Maps
set_option linter.unusedVariables false
set_option linter.unusedSimpArgs false
set_option maxHeartbeats 800000 in
/-- The library's Equal of the same whole numbers. -/
theorem iequal_any (A B : Option Addr) (c d : Nat) (l : List Int) (w : World) (hlc : l.length ≤ c) (hld : l.length ≤ d) (hr : Lies w A (l.map (Value.int .i64))) (hs : Lies w B (l.map (Value.int .i64))) (hm : l.length ≤ 65536) :
    Calls Try.prog 33 #[.slice A l.length c, .slice B l.length d] w fun e w' => e = .returned (.bool true) ∧ Below w.heap.size w w' := by
  go_enter Try.func33, Try.ntmps33
  go_wp2
  go_loopg [13] l.length (fun r i wr => ∃ j : Nat, j + r = l.length ∧ i = .int .i64 j ∧ Below w.heap.size w wr)
  case atStart => exact ⟨0, by omega, rfl, Below.refl _ _⟩
  case round =>
    obtain ⟨j, hj, rfl, hb⟩ := hrel
    by_cases hjk : j < l.length
    · obtain ⟨a, rfl, hc⟩ := (hr.below hb).at (k := j) (by simpa using hjk)
      obtain ⟨b, rfl, hc2⟩ := (hs.below hb).at (k := j) (by simpa using hjk)
      rw [List.getElem_map] at hc hc2
      generalize l[j] = x at hc hc2
      have hj1 : ((j : Nat) : Int) < l.length := by omega
      go_wp2_with fail
      go_quiet (fail)
      go_wp2
      go_roundg (l.length - (j + 1))
      case measure => omega
      case rel => exact ⟨j + 1, by omega, by go_num, below_drewN hb _⟩
    · obtain rfl : j = l.length := by omega
      go_wp2
      go_ret
      exact ⟨rfl, hb⟩
theorem OI.lies {w : World} {base : Nat} {A : Option Addr} {n c : Nat} {l : List Int} (h : OI w base (.slice A n c) l) : Lies w A (l.map (Value.int .i64)) := Lies.of_own h
theorem looseL_length (d : Dsk) : d.looseL.length ≤ d.kept.length := by
  unfold Dsk.looseL
  rw [List.length_map]
  exact Nat.le_trans (List.length_filter_le _ _) (by simp)
set_option maxRecDepth 100000 in
set_option maxHeartbeats 1600000 in
theorem same_any (G K M C g a b c x y z : Nat) (d : Dsk) (w : World) (h : Two w G K M C g a b c x y z d d) :
    Calls Try.prog 22 #[.pointer (some ⟨G, 0, none⟩), .pointer (some ⟨g, 0, none⟩)] w fun e w' => e = .returned (.bool true) ∧ Below w.heap.size w w' := by
  have hll := looseL_length d
  have hmo := h.ok2.most
  have HT := Lib.hid h
  have HTw := Lib.hid (fun w2 (hb : Below w.heap.size w w2) => h.below hb)
  have HS := Lib.hid (fun w2 (hb : Below w.heap.size w w2) => size_any G K M C d w2 (h.below hb).ours)
  have HD := Lib.hid (fun w2 (hb : Below w.heap.size w w2) => dead_any G K M C d w2 (h.below hb).ours)
  have HL := Lib.hid (fun w2 (hb : Below w.heap.size w w2) => loose_any G K M C d w2 (h.below hb).ours)
  have HLr := Lib.hid (fun w2 (hb : Below w.heap.size w w2) => rloose_any g a b c x y z d w2 (h.below hb).its hmo)
  have HR := Lib.hid (fun i w2 (hb : Below w.heap.size w w2) => read_any G K M C d i w2 (h.below hb).ours)
  have HRr := Lib.hid (fun i w2 (hb : Below w.heap.size w w2) => rread_any g a b c x y z d i w2 (h.below hb).its hmo)
  have HC0 := Lib.hid (fun w2 (hb : Below w.heap.size w w2) => Rf.c0 (h.below hb).its)
  have HC4 := Lib.hid (fun w2 (hb : Below w.heap.size w w2) => Rf.c4 (h.below hb).its)
  have hbd : Below w.heap.size w w.drew := (Below.refl _ _).drew
  have c0d := HC0.out _ hbd
  have c4d := HC4.out _ hbd
  obtain ⟨L, hL⟩ : ∃ L, d.looseL = L := ⟨_, rfl⟩
  rw [hL] at HL HLr hll
  have hL65 : L.length ≤ 65536 := by omega
  obtain ⟨n, hn⟩ : ∃ n, d.kept.length = n := ⟨_, rfl⟩
  rw [hn] at HS c0d HC0 hmo
  clear h hL hn hll
  go_enter Try.func22, Try.ntmps22
  go_wp2_with fail
  go_cut [34] from 10 (fun s w2 => s = .bool false ∧ Below w.heap.size w w2)
  case first =>
    go_region_law (first
      | (go_simp; go_at_call 18; refine (HS.out _ hbd).mono ?_; rintro e w1 ⟨rfl, rfl⟩)
      | (go_simp; go_at_call 17; refine (HD.out _ hbd).mono ?_; rintro e w1 ⟨rfl, rfl⟩)
      | (go_simp; go_at_call 19; refine (HL.out _ hbd).mono ?_; rintro e w2 ⟨v2, rfl, ho2, hb2⟩
         have hb02 := hbd.trans hb2)
      | (go_simp; go_at_call 34; refine (HLr.out _ hb02).mono ?_; rintro e w3 ⟨v3, rfl, ho3, hb3⟩
         have hb03 := hb02.trans (hb3.mono hb02.size)
         obtain ⟨A2, e2, rfl, hl2, _⟩ := (OI.below ho2 hb3).form
         obtain ⟨A3, e3, rfl, hl3, _⟩ := ho3.form
         have HEq := Lib.hid (iequal_any A2 A3 e2 e3 L w3 hl2 hl3 (OI.lies (OI.below ho2 hb3)) (OI.lies ho3) hL65))
      | (go_simp; go_at_call 33; refine HEq.out.mono ?_; rintro e w4 ⟨rfl, hb4⟩
         have hb04 := hb03.trans (hb4.mono hb03.size)))
    all_goals simp only [Act.put, List.getElem_toArray, List.getElem_cons_succ, List.getElem_cons_zero, List.setIfInBounds_toArray, List.set_cons_zero, List.set_cons_succ]
    all_goals go_wp2_with fail
    all_goals go_meet
    all_goals exact ⟨rfl, hb04⟩
  case rest =>
    obtain ⟨rfl, hbc⟩ := hcut
    have c0c := HC0.out _ hbc
    clear HC4 HS HD HL HLr c0d c4d hbd
    have hRS := Lib.hid (fun i : Int => show (if d.readE i = 0 then pad (d.now i.toNat) else []) = d.readS i from rfl)
    go_wp2_with fail
    go_loopg [40] n (fun r i wr => ∃ j : Nat, j + r = n ∧ i = .int .i64 j ∧ Below w.heap.size w wr)
    case atStart => exact ⟨0, by omega, rfl, hbc⟩
    case round =>
      clear c0c hbc
      obtain ⟨j, hj, rfl, hb⟩ := hrel
      by_cases hjn : j < n
      · have hj1 : decide ((j : Int) < (n : Int)) = true := decide_eq_true (by omega)
        have H1 := Lib.hid (HR.out (j : Int) wr hb)
        rw [hRS.out] at H1
        go_wp2_with (first
          | (go_at_call 13; refine H1.out.mono ?_; rintro e w2 ⟨v2, rfl, ho2, hb2⟩
             have hb02 := hb.trans (hb2.mono hb.size)
             have H2 := Lib.hid (HRr.out (j : Int) w2 hb02)
             obtain ⟨A2, c2, rfl, hl2, _⟩ := ho2.form
             have kc := RB.str (P := Try.prog) (w := w2) (src := 22) (dst := 9) Try.underlying22 Try.underlying5 Try.underlying9 (RB.of_own ho2) (d.readS j).length c2 rfl
             generalize (d.readS j).length = m2 at kc ho2 hl2)
          | (go_at_call 21; refine H2.out.mono ?_; rintro e w3 ⟨rfl, rfl⟩))
        go_roundg (n - (j + 1))
        case measure => omega
        case rel => exact ⟨j + 1, by omega, by go_num, hb02⟩
      · obtain rfl : j = n := by omega
        go_wp2
        go_returns
        exact ⟨rfl, hb⟩
end Go.Proofs.Ytjfjeajbekhmdaa
