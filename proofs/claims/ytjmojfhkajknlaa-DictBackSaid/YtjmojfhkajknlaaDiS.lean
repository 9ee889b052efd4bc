/- The words that begin so: Range; and what the document says of them. -/
import Derived.Test.YtjmojfhkajknlaaDiR
namespace Go.Proofs.Ytjmojfhkajknlaa
open Go.RowKit
set_option linter.unusedVariables false
set_option linter.unusedSimpArgs false
theorem begins_no {p x : List UInt8} (h : ¬ p.length ≤ x.length) : begins p x = false := by unfold begins; rw [decide_eq_false h]; rfl
theorem begins_yes {p x : List UInt8} (h : p.length ≤ x.length) : begins p x = (x.take p.length == p) := by unfold begins; rw [decide_eq_true h]; rfl
theorem pre_to (s p : ByteArray) : ((s.extract 0 p.size).toList == p.toList) = ((by8 s).take (by8 p).length == by8 p) := by
  rw [by8_to, by8_to, by8_extract, List.drop_zero, Nat.sub_zero, by8_size]
theorem lprefix_any (s p : ByteArray) (w : World) (hs : s.size ≤ 9223372036854775807) :
    Calls Try.prog 42 #[.string s, .string p] w fun e w' => e = .returned (.bool (begins (by8 p) (by8 s))) ∧ w = w' := by
  by_cases h : p.size ≤ s.size
  · have hq : decide (p.size ≤ s.size) = true := decide_eq_true h
    have hi : (p.size : Int) ≤ (s.size : Int) := by omega
    have hv : Hid (((s.extract 0 p.size).toList == p.toList) = begins (by8 p) (by8 s)) := by show _ = _; rw [pre_to, begins_yes (p := by8 p) (x := by8 s) h]
    go_enter Try.func42, Try.ntmps42
    go_wp2
    go_ret
    exact ⟨by rw [← hv.out]; rfl, rfl⟩
  · have hq : decide (p.size ≤ s.size) = false := decide_eq_false h
    have hv : Hid (begins (by8 p) (by8 s) = false) := begins_no h
    go_enter Try.func42, Try.ntmps42
    go_wp2
    go_ret
    exact ⟨by rw [hv.out]; rfl, rfl⟩
theorem prefix_any (s p : ByteArray) (w : World) (hs : s.size ≤ 9223372036854775807) :
    Calls Try.prog 37 #[.string s, .string p] w fun e w' => e = .returned (.bool (begins (by8 p) (by8 s))) ∧ w = w' := by
  have H := Lib.hid (lprefix_any s p w hs)
  go_enter Try.func37, Try.ntmps37
  go_wp2_with (go_at_call 42; refine H.out.mono ?_; rintro e w' ⟨rfl, rfl⟩)
  go_ret
  exact ⟨rfl, rfl⟩
theorem rbegins_any (s p : ByteArray) (w : World) :
    Calls Try.prog 23 #[.string s, .string p] w fun e w' => e = .returned (.bool (begins (by8 p) (by8 s))) ∧ w = w' := by
  by_cases h : p.size ≤ s.size
  · have hq : decide (p.size ≤ s.size) = true := decide_eq_true h
    have hi : (p.size : Int) ≤ (s.size : Int) := by omega
    have hv : Hid (((s.extract 0 p.size).toList == p.toList) = begins (by8 p) (by8 s)) := by show _ = _; rw [pre_to, begins_yes (p := by8 p) (x := by8 s) h]
    go_enter Try.func23, Try.ntmps23
    go_wp2
    go_ret
    exact ⟨by rw [← hv.out]; rfl, rfl⟩
  · have hq : decide (p.size ≤ s.size) = false := decide_eq_false h
    have hv : Hid (begins (by8 p) (by8 s) = false) := begins_no h
    go_enter Try.func23, Try.ntmps23
    go_wp2
    go_ret
    exact ⟨by rw [hv.out]; rfl, rfl⟩
set_option maxHeartbeats 800000 in
theorem rclos_any (bd bf bx g m : Nat) (l : List (List UInt8)) (s : ByteArray) (i : Nat) (W : World) (hd : DOk W g l) (hi : m + i < l.length)
    (ha : W.cell? ⟨bd, 0, none⟩ = some (.pointer (some ⟨g, 0, none⟩))) (hf : W.cell? ⟨bf, 0, none⟩ = some (.int .i64 m)) (hx : W.cell? ⟨bx, 0, none⟩ = some (.string s)) (hm : l.length ≤ 16384) (hx4 : ∀ x ∈ l, x.length ≤ 64) :
    Calls Try.prog 36 #[.int .i64 i, .pointer (some ⟨bd, 0, none⟩), .pointer (some ⟨bf, 0, none⟩), .pointer (some ⟨bx, 0, none⟩)] W fun e w' => e = .returned (.bool (!begins (by8 s) ((l.drop m).getD i []))) ∧ Below W.heap.size W w' := by
  have hil : i < (l.drop m).length := by rw [List.length_drop]; omega
  rw [getD_at _ i [] hil, List.getElem_drop]
  have HAt := Lib.hid (at_in g l (m + i) W hd hi hm hx4)
  have hy := hx4 _ (List.getElem_mem hi)
  generalize l[m + i] = y at HAt hy ⊢
  obtain ⟨t, ht⟩ : ∃ t, t = m + i := ⟨_, rfl⟩
  rw [← ht] at HAt
  have hti : ((m : Int) + (i : Int)) = (t : Int) := by omega
  have HP : Hid (∀ w, Calls Try.prog 37 #[.string (str y), .string s] w fun e w' => e = .returned (.bool (begins (by8 s) y)) ∧ w = w') := fun w => prefix_any (str y) s w (by rw [str_size]; omega)
  have hlx := World.block_lt_of_cell? _ _ hx
  clear hd hx4 ht hil
  go_enter Try.func36, Try.ntmps36
  go_wp2_with fail
  refine HAt.out.mono ?_
  rintro e w2 ⟨rfl, hb2⟩
  have hx2 := (hb2.cell (p := ⟨bx, 0, none⟩) hlx).trans hx
  go_wp2_with (go_at_call 37; refine (HP.out _).mono ?_; rintro e w' ⟨rfl, rfl⟩)
  go_ret
  exact ⟨rfl, hb2⟩
set_option maxHeartbeats 3200000 in
theorem range_any (g : Nat) (l : List (List UInt8)) (s : ByteArray) (m r : Nat) (w : World) (hd : DOk w g l) (hne : l ≠ []) (hck : chk [] l = true) (hm : l.length ≤ 16384) (hb : Bnd l (lessP (by8 s)) m) (hr : Bnd (l.drop m) (begins (by8 s)) r) :
    Calls Try.prog 22 #[.pointer (some ⟨g, 0, none⟩), .string s] w fun e w' => e = .returned (.tuple #[.int .i64 m, .int .i64 (m + r : Nat)]) ∧ Below w.heap.size w w' := by
  have hx := chk_len hck
  have b0 := ((Below.refl w.heap.size w).alloc (Nat.le_refl _) (.cells #[.pointer (some ⟨g, 0, none⟩)] 25)).alloc (by simp) (.cells #[.string s] 9)
  have cd : ((w.alloc (.cells #[.pointer (some ⟨g, 0, none⟩)] 25)).alloc (.cells #[.string s] 9)).cell? ⟨w.heap.size, 0, none⟩ = some (.pointer (some ⟨g, 0, none⟩)) := tmp_under _ _ _ _
  have cx : ((w.alloc (.cells #[.pointer (some ⟨g, 0, none⟩)] 25)).alloc (.cells #[.string s] 9)).cell? ⟨w.heap.size + 1, 0, none⟩ = some (.string s) := tmp_next _ _ _ _
  have hd2 := hd.below b0
  have hs0 : w.heap.size ≤ ((w.alloc (.cells #[.pointer (some ⟨g, 0, none⟩)] 25)).alloc (.cells #[.string s] 9)).heap.size := b0.size
  have hld := World.block_lt_of_cell? _ _ cd
  have hlx := World.block_lt_of_cell? _ _ cx
  have HSk := Lib.hid (seek_any g l s m _ hd2 hne hck hm hb)
  have hml := hb.le
  have hrl := hr.le
  rw [List.length_drop] at hrl
  go_enter Try.func22, Try.ntmps22
  go_wp2_with fail
  generalize (w.alloc (.cells #[.pointer (some ⟨g, 0, none⟩)] 25)).alloc (.cells #[.string s] 9) = W0 at b0 cd cx hd2 hs0 hld hlx HSk ⊢
  refine HSk.out.mono ?_
  rintro e w1 ⟨rfl, hb1⟩
  have cd1 := (hb1.cell (p := ⟨w.heap.size, 0, none⟩) hld).trans cd
  have cx1 := (hb1.cell (p := ⟨w.heap.size + 1, 0, none⟩) hlx).trans cx
  have hd3 := hd2.below hb1
  have hbw := b0.trans (hb1.mono hs0)
  clear HSk b0 cd cx hd2 hs0 hld hlx hb1 hd
  go_wp2_with fail
  have ba := (Below.refl w1.heap.size w1).alloc (Nat.le_refl _) (.cells #[.int .i64 m] 3)
  have cD := (ba.cell (p := ⟨w.heap.size, 0, none⟩) (World.block_lt_of_cell? _ _ cd1)).trans cd1
  have cX := (ba.cell (p := ⟨w.heap.size + 1, 0, none⟩) (World.block_lt_of_cell? _ _ cx1)).trans cx1
  have cF := tmp_here w1 (.int .i64 m) 3
  have hd4 := hd3.below ba
  have hbW := hbw.trans (ba.mono hbw.size)
  generalize w1.heap.size = qf at cF ⊢
  generalize w1.alloc (.cells #[.int .i64 m] 3) = W at cD cX cF hd4 hbW ⊢
  have hlf := World.block_lt_of_cell? _ _ cF
  have hld := World.block_lt_of_cell? _ _ cD
  have hlx := World.block_lt_of_cell? _ _ cX
  have HLn : Hid (∀ w', Below W.heap.size W w' → Calls Try.prog 12 #[.pointer (some ⟨g, 0, none⟩)] w' fun e w'' => e = .returned (.int .i64 l.length) ∧ w' = w'') := fun w' hb => len_any g l w' (hd4.below hb)
  have hD0 : Below W.heap.size W W.drew := (Below.refl _ _).drew
  obtain ⟨n, hn⟩ : ∃ n, n = l.length - m := ⟨_, rfl⟩
  have hn2 : ((l.length : Int) - (m : Int)) = (n : Int) := by omega
  have hwn : IntKind.i64.wrap (n : Int) = (n : Int) := by rw [IntKind.wrap_i64]; omega
  have hwm : IntKind.i64.wrap ((m : Int) + (r : Int)) = (m : Int) + (r : Int) := by rw [IntKind.wrap_i64]; omega
  have hDr : DOk W.drew g l := hd4
  have HSr : Hid (Calls Try.prog 33 #[.int .i64 n, .func (.func 36) #[] #[.pointer (some ⟨w.heap.size, 0, none⟩), .pointer (some ⟨qf, 0, none⟩), .pointer (some ⟨w.heap.size + 1, 0, none⟩)]] W.drew fun e w' => e = .returned (.int .i64 r) ∧ Below W.drew.heap.size W.drew w') :=
    search_any 36 #[.pointer (some ⟨w.heap.size, 0, none⟩), .pointer (some ⟨qf, 0, none⟩), .pointer (some ⟨w.heap.size + 1, 0, none⟩)] n r (fun i => !begins (by8 s) ((l.drop m).getD i [])) W.drew (fun args w => enters_of Try.func36 (by kernel_rfl) rfl args w) (by omega)
      (fun w' i hb hi => rclos_any w.heap.size qf (w.heap.size + 1) g m l s i w' (hDr.below hb) (by omega) ((hb.cell (p := ⟨w.heap.size, 0, none⟩) hld).trans cD) ((hb.cell (p := ⟨qf, 0, none⟩) hlf).trans cF) ((hb.cell (p := ⟨w.heap.size + 1, 0, none⟩) hlx).trans cX) hm hx)
      (by omega) (fun t ht => by rw [getD_at _ t [] (by rw [List.length_drop]; omega), hr.yes t (by rw [List.length_drop]; omega) ht]; rfl) (fun t h1 h2 => by rw [getD_at _ t [] (by rw [List.length_drop]; omega), hr.no t (by rw [List.length_drop]; omega) h1]; rfl)
  have hbD := hbW.drew
  clear hbw cd1 cx1 hd3 ba hr hb hd4 hDr hx hck hn
  go_region_held3 (fun w' => w'.cell? ⟨w.heap.size, 0, none⟩ = some (.pointer (some ⟨g, 0, none⟩)) ∧ w'.cell? ⟨qf, 0, none⟩ = some (.int .i64 m)) (go_keep) (first
    | (go_at_call 12; refine (HLn.out _ hD0).mono ?_; rintro e w' ⟨rfl, rfl⟩)
    | (go_at_call 33; refine HSr.out.mono ?_; rintro e w3 ⟨rfl, hb3⟩; have kD : w3.cell? ⟨w.heap.size, 0, none⟩ = some (.pointer (some ⟨g, 0, none⟩)) := (hb3.cell (p := ⟨w.heap.size, 0, none⟩) hld).trans cD; have kF : w3.cell? ⟨qf, 0, none⟩ = some (.int .i64 m) := (hb3.cell (p := ⟨qf, 0, none⟩) hlf).trans cF; have hbE := hbD.trans (hb3.mono hbD.size)))
  all_goals go_wp2
  all_goals go_ret2
  all_goals exact ⟨by rfl, by assumption⟩
end Go.Proofs.Ytjmojfhkajknlaa
