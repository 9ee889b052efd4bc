/- The words of a block: the walk. -/
import Derived.Test.YtjmojfhkajknlaaDiG
import Derived.BigQuiet
import Derived.Deep.QuietTactic
namespace Go.Proofs.Ytjmojfhkajknlaa
open Go.RowKit
set_option linter.unusedVariables false
set_option linter.unusedSimpArgs false
theorem word_join (last w : List UInt8) : (str last).extract 0 (likeL w last) ++ str (w.drop (likeL w last)) = str w := by
  apply by8_inj
  rw [by8_append, by8_extract, by8_str, by8_str, by8_str, List.drop_zero, Nat.sub_zero, likeL_take, List.take_append_drop]
set_option maxHeartbeats 3200000 in
theorem block_any (g : Nat) (l : List (List UInt8)) (b : Nat) (w : World) (h : DOk w g l) (hb : 4 * b < l.length) (hm : l.length ≤ 16384) (hx : ∀ x ∈ l, x.length ≤ 64) :
    Calls Try.prog 26 #[.pointer (some ⟨g, 0, none⟩), .int .i64 b] w fun e w' => ∃ v, e = .returned v ∧ (∃ A c, v = .slice A (grp l b).length c ∧ Lies w' A ((grp l b).map vs) ∧ (grp l b).length ≤ c ∧ (A = none → c = 0)) ∧ Below w.heap.size w w' := by
  obtain ⟨A, c, B, d, h1, h2, h3⟩ := h
  have k1 : w.cell? ⟨g, 1, none⟩ = some (.slice A (nblk l.length) c) := blk_cell h1
  have k2 : w.cell? ⟨g, 2, none⟩ = some (.slice B (nblk l.length) d) := blk_cell h1
  have hgl := blk_lt h1
  have hbH : b < (headsL l).length := by rw [headsL_length]; unfold nblk; omega
  have hbB : b < (blocksL l).length := by rw [blocksL_length]; unfold nblk; omega
  have hbn : b < nblk l.length := by unfold nblk; omega
  have hnb : nblk l.length ≤ 16384 := by unfold nblk; omega
  obtain ⟨aA, rfl, cA⟩ := h2.at (k := b) (by simpa using hbH)
  obtain ⟨aB, rfl, cB⟩ := h3.at (k := b) (by simpa using hbB)
  rw [List.getElem_map] at cA cB
  rw [blocksL_at] at cB
  have hgc := grp_cons l hb
  have hgl4 : (grp l b).length ≤ 4 := by rw [grp_length]; omega
  rw [headsL_at] at cA
  have hx4 : ∀ x ∈ grp l b, x.length ≤ 64 := fun x h => hx x (List.mem_of_mem_drop (List.mem_of_mem_take h))
  generalize grp l b = gr at hgc hgl4 hx4 cB ⊢
  obtain ⟨x0, xs, rfl, hx0⟩ : ∃ x0 xs, gr = x0 :: xs ∧ l[4 * b] = x0 := ⟨_, _, hgc, rfl⟩
  rw [hx0] at cA
  clear hgc h1 h2 h3 hbH hbB hx hx0
  rw [encTail] at cB
  have hel := encGo_le (d := x0) (fun x h => hx4 x (List.mem_cons_of_mem _ h))
  rw [List.length_cons] at hgl4
  have HX := Lib.hid hx4
  clear hx4
  unfold vs at cA cB
  have cB2 : (w.alloc (.cells #[.string (str x0)] 9)).cell? (aB.add b) = some (.string (str (encGo x0 xs))) := by
    rw [World.cell?_alloc_lt _ _ _ (World.block_lt_of_cell? _ _ cB)]; exact cB
  clear cB
  have kc := fun (w : World) => Lib.run_convert_string_bytes (P := Try.prog) w 9 36 5 (str (encGo x0 xs)) Try.underlying9 Try.underlying36 Try.underlying5
  go_enter Try.func26, Try.ntmps26
  go_wp2_with fail
  have hsz : (str (encGo x0 xs)).size = (encGo x0 xs).length := str_size _
  have r1 := rb_bytes (w.alloc (.cells #[.string (str x0)] 9)) (str (encGo x0 xs))
  have e1 : (w.alloc (.cells #[.string (str x0)] 9)).heap.size = w.heap.size + 1 := by simp
  have HRd := readok _ (grownCap (w.alloc (.cells #[.string (str x0)] 9)) (str (encGo x0 xs)).size 0 5) (str (encGo x0 xs)).data.toList _ (by show (encGo x0 xs).length ≤ _; omega) (by simp) r1
  have bel1 := ((Below.refl w.heap.size w).alloc (Nat.le_refl _) (.cells #[.string (str x0)] 9)).trans (Joins.below_bytesWorld w.heap.size (w.alloc (.cells #[.string (str x0)] 9)) 5 (str (encGo x0 xs)) (by omega))
  have bel0 := Joins.below_bytesWorld (w.heap.size + 1) (w.alloc (.cells #[.string (str x0)] 9)) 5 (str (encGo x0 xs)) (by omega)
  have hs0 : w.heap.size + 1 ≤ (Lib.bytesWorld (w.alloc (.cells #[.string (str x0)] 9)) 5 (str (encGo x0 xs))).heap.size := by have := bel0.size; omega
  rw [e1, show (str (encGo x0 xs)).data.toList.length = (str (encGo x0 xs)).size by rfl] at HRd
  refine HRd.mono ?_
  rintro e w2 ⟨gr, rfl, hR, hgrl, hb2⟩
  have hR : RdOk w2 gr (encGo x0 xs) := hR
  have hO : OutAt w2 gr w.heap.size (.slice (some ⟨w.heap.size, 0, none⟩) 1 1) [x0] := by
    refine .inl ⟨x0, rfl, rfl, ?_, by omega⟩
    rw [hb2.cell (p := ⟨w.heap.size, 0, none⟩) (by show w.heap.size < _; omega), bel0.cell (p := ⟨w.heap.size, 0, none⟩) (by show w.heap.size < _; omega)]
    exact tmp_here w (vs x0) _
  have hb := bel1.trans (hb2.mono (by omega))
  have hwg : w.heap.size < gr := by omega
  clear cA cB2 k1 k2 kc r1 e1 HRd bel1 bel0 hs0 hb2 hgrl hsz
  go_wp2
  go_loopg [5, 6] xs.length (fun r s5 s6 wr => ∃ (j : Nat) (last : List UInt8), j + r = xs.length ∧ s5 = .string (str last) ∧ Hid (last = lastW x0 (xs.take j)) ∧ OutAt wr gr w.heap.size s6 (x0 :: xs.take j) ∧ RdOk wr gr (encGo last (xs.drop j)) ∧ Below w.heap.size w wr)
  case atStart => exact ⟨0, x0, by omega, rfl, Lib.hid rfl, hO, hR, hb⟩
  case round =>
    clear hO hR hb
    obtain ⟨j, last, hj, rfl, hla, hO, hR, hb⟩ := hrel
    by_cases hjn : j < xs.length
    · rw [List.drop_eq_getElem_cons hjn] at hR
      have HT : Hid (x0 :: xs.take (j + 1) = (x0 :: xs.take j) ++ [xs[j]]) := by show _ = _; rw [List.take_succ_eq_append_getElem hjn]; rfl
      have HL : Hid (xs[j] = lastW x0 (xs.take (j + 1))) := by show _ = _; rw [List.take_succ_eq_append_getElem hjn, lastW_snoc]
      have hx1 := HX.out _ (List.mem_cons_of_mem _ (List.getElem_mem hjn))
      have hel2 := encGo_le (d := xs[j]) (l := xs.drop (j + 1)) (fun x h => HX.out x (List.mem_cons_of_mem _ (List.mem_of_mem_drop h)))
      rw [List.length_drop] at hel2
      generalize xs[j] = x at hR HT HL hx1 hel2
      have hlast : last.length ≤ 64 := by
        rw [hla.out]; unfold lastW
        cases e : (xs.take j).getLast? with
        | none => exact HX.out x0 List.mem_cons_self
        | some y => exact HX.out y (List.mem_cons_of_mem _ (List.mem_of_mem_take (List.mem_of_getLast? e)))
      obtain ⟨ys, hys⟩ : ∃ ys, ys = xs.drop (j + 1) := ⟨_, rfl⟩
      rw [← hys] at hR hel2
      have HY := Lib.hid hys
      clear hys
      have HO2 := Lib.hid hO.lies
      rw [encGo] at hR
      have hpos : 0 < (codeW last x ++ encGo x ys).length := by rw [List.length_append]; have := codeW_pos last x; omega
      have HLf := Lib.hid (rleftok gr _ wr hR)
      have hp : ((codeW last x ++ encGo x ys).length : Int) > 0 := by omega
      have hk1 := likeL_le x last
      have HJ := Lib.hid (word_join last x)
      have hcw : codeW last x ++ encGo x ys = numBytes (likeL x last) ++ (numBytes (x.drop (likeL x last)).length ++ (x.drop (likeL x last) ++ encGo x ys)) := by
        unfold codeW textBytes; simp only [List.append_assoc]
      rw [hcw] at hR
      have hdl : (x.drop (likeL x last)).length ≤ 64 := by rw [List.length_drop]; omega
      generalize codeW last x ++ encGo x ys = bs at HLf hp hpos
      clear hcw
      generalize likeL x last = k at hR hk1 HJ hdl
      generalize x.drop k = tx at hR HJ hdl
      have hnl : (numBytes tx.length).length ≤ 9 := by rw [numBytes_length]; have := need_le tx.length; omega
      have HN := Lib.hid (rnumok gr k (last.length : Int) _ wr (by omega) (by omega) hR (by simp only [List.length_append]; omega))
      have hsl : (str last).size = last.length := str_size _
      have hkl : (k : Int) ≤ (last.length : Int) := by omega
      clear hR
      go_wp2_with (first
        | (go_at_call 19; refine HLf.out.mono ?_; rintro e w' ⟨rfl, rfl⟩)
        | (go_at_call 30; refine HN.out.mono ?_; rintro e w3 ⟨rfl, hR3, hg3⟩))
      have HTx := Lib.hid (rtextok gr 64 tx (encGo x ys) w3.drew (by omega) (hR3.heap rfl) (by omega))
      have hO3 := hO.kept hg3
      have hb3 := hb.grown hg3 hb.size (fun k hk => by injection hk with hk; omega)
      have hlt3 := hR3.lt
      have s2 : (str tx).size = tx.length := str_size _
      have hif : ¬ (9223372036854775807 < k + tx.length) := by omega
      have hxl : xs.length ≤ 4 := by omega
      clear HLf HN hO hb hR3 hg3
      go_region_law (first
        | (go_simp; go_at_call 31; refine HTx.out.mono ?_; rintro e w4 ⟨rfl, hR4, hg4⟩))
      all_goals simp only [Act.put, List.getElem_toArray, List.getElem_cons_succ, List.getElem_cons_zero, List.setIfInBounds_toArray, List.set_cons_zero, List.set_cons_succ]
      all_goals rw [HJ.out]
      all_goals
        have hO4 := (show OutAt w3.drew gr w.heap.size u6 (x0 :: xs.take j) from hO3).kept hg4
        have hb4 := (hb3.drew).grown hg4 (by show w.heap.size ≤ w3.heap.size; omega) (fun k hk => by injection hk with hk; omega)
        have hlt4 := hR4.lt
        have hl1 : (x0 :: xs.take j).length ≤ 100 := by rw [List.length_cons, List.length_take]; omega
        clear HTx hO3 hb3 hg4
        generalize x0 :: xs.take j = pr at hO4 hl1 HT HO2
        go_wp2_with (at_builtin; refine wpList_out rfl _ _ rfl gr w.heap.size _ pr rfl (hO4.alloc _) ⟨w4.heap.size, 0, none⟩ x rfl (tmp_here w4 (vs x) _) (by omega) (by simp; omega) ?_; intro v' w5 row hO5 hg5 hrow)
        have hR5 : RdOk w5 gr (encGo x ys) := (hR4.alike ((Below.refl w4.heap.size w4).alloc (Nat.le_refl _) _)).own hg5 hrow
        have hb5 := (hb4.alloc (by omega) (.cells #[vs x] 9)).grown hg5 (by simp; omega) (fun k hk => by have := hrow k hk; omega)
        clear hR4 hO4 hb4 hg5
        go_roundg (xs.length - (j + 1))
        case measure => omega
        case rel => exact ⟨j + 1, x, by omega, rfl, HL, .inr (by rw [HT.out]; exact hO5), by rw [← HY.out]; exact hR5, hb5⟩
    · obtain rfl : j = xs.length := by omega
      rw [List.drop_length] at hR
      rw [List.take_length] at hO
      have HLf := Lib.hid (rleftok gr _ wr hR)
      have HO := Lib.hid hO.lies
      clear hO hR hla
      go_wp2_with (go_at_call 19; refine HLf.out.mono ?_; rintro e w' ⟨rfl, rfl⟩)
      go_ret
      exact ⟨_, rfl, HO.out, hb⟩
end Go.Proofs.Ytjmojfhkajknlaa
