/- A dictionary's bytes, the word of a place: the walks. -/
import Derived.Test.YtjmojfhkajknlaaDiI
namespace Go.Proofs.Ytjmojfhkajknlaa
open Go.RowKit
set_option linter.unusedVariables false
set_option linter.unusedSimpArgs false
theorem numBytes_le (x : Nat) : (numBytes x).length ≤ 9 := by rw [numBytes_length]; have := need_le x; omega
set_option maxHeartbeats 3200000 in
theorem bytes_of (p : Option Addr) (l : List (List UInt8)) (w : World) (hl : l.length ≤ 16384) (hx : ∀ x ∈ l, x.length ≤ 64)
    (HL : Calls Try.prog 12 #[.pointer p] w fun e w' => e = .returned (.int .i64 l.length) ∧ w = w')
    (HW : ∀ w', Below w.heap.size w w' → Calls Try.prog 14 #[.pointer p] w' fun e w'' => ∃ v, e = .returned v ∧ OS w'' w'.heap.size v l ∧ Below w'.heap.size w' w'') :
    Calls Try.prog 16 #[.pointer p] w fun e w' => ∃ v, e = .returned v ∧ OB w' w.heap.size v (dictBytes l) ∧ Below w.heap.size w w' := by
  have HLn := Lib.hid HL
  have HWd := Lib.hid HW
  have HX := Lib.hid hx
  clear HL HW
  have HN := Lib.hid (num_nil l.length (by omega))
  have HD : Hid (dictBytes l = numBytes l.length ++ encGo [] (l.take l.length)) := by show _ = _; rw [List.take_length]; rfl
  have hn9 := numBytes_le l.length
  generalize numBytes l.length = nb at HN HD hn9
  generalize dictBytes l = D at HD ⊢
  clear hx
  go_enter Try.func16, Try.ntmps16
  go_wp2_with fail
  refine HLn.out.mono ?_
  rintro e w' ⟨rfl, rfl⟩
  go_wp2_with fail
  refine (HN.out _).mono ?_
  rintro e w1 ⟨v1, rfl, ho1, hb1⟩
  go_wp2_with fail
  refine (HWd.out _ hb1).mono ?_
  rintro e w2 ⟨v2, rfl, hs2, hb2⟩
  obtain ⟨A2, c2, rfl, hL2, hc2, hA2⟩ := hs2.lies
  have ho2 := ho1.below hb2
  have hb := hb1.trans (hb2.mono hb1.size)
  have hb12 := Lib.hid hb
  clear ho1 hb1 hb2 hs2 HLn HN HWd
  have HL2 := Lib.hid hL2
  have hsz2 := hb.size
  clear hL2
  go_wp2
  go_loopg [3, 4, 14] l.length (fun r v s4 i wr => ∃ (j : Nat) (last : List UInt8), j + r = l.length ∧ i = .int .i64 j ∧ s4 = .string (str last) ∧ Hid (last = lastW [] (l.take j)) ∧ last.length ≤ 64 ∧ OB wr w.heap.size v (nb ++ encGo [] (l.take j)) ∧ Below w.heap.size w wr ∧ Lies wr A2 (l.map vs))
  case atStart => exact ⟨0, [], by omega, rfl, rfl, Lib.hid rfl, by simp, by rw [List.take_zero, encGo, List.append_nil]; exact ho2, hb, HL2.out⟩
  case round =>
    clear ho2 hb
    obtain ⟨j, last, hj, rfl, rfl, hla, hl64, ho, hb, hL⟩ := hrel
    by_cases hjn : j < l.length
    · obtain ⟨a, rfl, hc⟩ := hL.at (k := j) (by simpa using hjn)
      rw [List.getElem_map] at hc
      have HT : Hid (encGo [] (l.take (j + 1)) = encGo [] (l.take j) ++ codeW last l[j]) := by
        show _ = _
        rw [List.take_succ_eq_append_getElem hjn, encGo_append, ← hla.out]
        simp [encGo]
      have HLa : Hid (l[j] = lastW [] (l.take (j + 1))) := by show _ = _; rw [List.take_succ_eq_append_getElem hjn, lastW_snoc]
      have hx1 := HX.out _ (List.getElem_mem hjn)
      have hel := encGo_le (d := []) (l := l.take j) (fun x h => HX.out x (List.mem_of_mem_take h))
      rw [List.length_take] at hel
      generalize l[j] = x at hc HT HLa hx1
      have HLi := Lib.hid hL
      unfold vs at hc
      have hk1 := likeL_le x last
      have HLk : Hid (∀ w, Calls Try.prog 28 #[.string (str x), .string (str last)] w fun e w' => e = .returned (.int .i64 (likeL x last)) ∧ ∃ q, w' = w.drewN q) := fun w => like_any (str x) (str last) w (by rw [str_size]; omega) (by rw [str_size]; omega)
      have hcw : Hid (codeW last x = numBytes (likeL x last) ++ textBytes (x.drop (likeL x last))) := rfl
      have hcl := codeW_le last x
      generalize codeW last x = cw at HT hcw hcl
      generalize likeL x last = k at hk1 HLk hcw
      obtain ⟨bs, hbs⟩ : ∃ bs, bs = nb ++ encGo [] (l.take j) := ⟨_, rfl⟩
      have hbl : bs.length ≤ 1400000 := by rw [hbs, List.length_append]; omega
      have HT2 : Hid (nb ++ encGo [] (l.take (j + 1)) = bs ++ cw) := by show _ = _; rw [HT.out, hbs, List.append_assoc]
      rw [← hbs] at ho
      clear hbs hel hL
      have hsx : (str x).size = x.length := str_size _
      have hkl : (k : Int) ≤ (x.length : Int) := by omega
      go_wp2_with (go_at_call 28; refine (HLk.out _).mono ?_; rintro e w3 ⟨rfl, q, rfl⟩)
      have ho : OB (wr.drewN q) w.heap.size u3 bs := ho
      have hb : Below w.heap.size w (wr.drewN q) := below_drewN hb q
      have HLi : Hid (Lies (wr.drewN q) (some a) (l.map vs)) := HLi
      generalize wr.drewN q = W at ho hb HLi ⊢
      obtain ⟨A3, c3, rfl, hl3, hA3⟩ := ho.form
      have hs := hb.size
      have hn9k := numBytes_le k
      have HNm : Hid (∀ w', RB w' A3 bs → Calls Try.prog 27 #[.slice A3 bs.length c3, .int .i64 k] w' fun e w'' => ∃ v, e = .returned v ∧ OB w'' w'.heap.size v (bs ++ numBytes k) ∧ Below w'.heap.size w' w'') := by
        intro w' hr
        have := num_any A3 c3 bs (k : Int) w' (by omega) (by omega) hA3 hl3 hr
        rw [numNat_nat] at this
        exact this
      have hr3 := (RB.of_own ho).drew
      have HTx : Hid (∀ w' A c n, n = (bs ++ numBytes k).length → n ≤ c → (A = none → c = 0) → RB w' A (bs ++ numBytes k) → Calls Try.prog 29 #[.slice A n c, .string ((str x).extract k x.length)] w' fun e w'' => ∃ v, e = .returned v ∧ OB w'' w'.heap.size v (bs ++ cw) ∧ Below w'.heap.size w' w'') := by
        rintro w' A c n rfl hc hA hr
        have tl : ((str x).extract k x.length).data.toList = x.drop k := by
          have := by8_extract (str x) k x.length
          rw [by8_str, List.take_of_length_le (by rw [List.length_drop]; exact Nat.le_refl _)] at this
          exact this
        have := text_any A c (bs ++ numBytes k) ((str x).extract k x.length) w' (by rw [ByteArray.size_extract, List.length_append]; omega) hA hc hr
        rw [tl, List.append_assoc, ← hcw.out] at this
        exact this
      have HLiD : Hid (Lies W.drew (some a) (l.map vs)) := HLi
      have hbD := hb.drew
      clear HLk HLi
      go_region_law (first
        | (go_simp; go_at_call 27; refine (HNm.out _ hr3).mono ?_; rintro e w4 ⟨v4, rfl, ho4, hb4⟩; obtain ⟨A4, c4, hv4, hl4, hA4⟩ := ho4.form; obtain ⟨n4, hn4⟩ : ∃ n4, n4 = (bs ++ numBytes k).length := ⟨_, rfl⟩; rw [← hn4] at hv4 hl4; subst hv4; have Hn4 := Lib.hid hn4; clear hn4; have hr4 := RB.of_own ho4)
        | (go_simp; go_at_call 29; refine (HTx.out _ A4 c4 n4 Hn4.out hl4 hA4 hr4).mono ?_; rintro e w5 ⟨v5, rfl, ho5, hb5⟩))
      all_goals simp only [Act.put, List.getElem_toArray, List.getElem_cons_succ, List.getElem_cons_zero, List.setIfInBounds_toArray, List.set_cons_zero, List.set_cons_succ]
      all_goals
        have h45 := hb4.trans (hb5.mono hb4.size)
        rw [← HT2.out] at ho5
        have hsD : w.heap.size ≤ W.drew.heap.size := hs
        have ho6 : OB w5 w.heap.size v5 _ := ho5.mono (Nat.le_trans hsD hb4.size)
        have hb6 := hbD.trans (h45.mono hsD)
        have HL6 := Lib.hid (HLiD.out.below h45)
        clear ho4 ho5 hb4 hb5 h45 HNm HTx HLiD ho hb hbD hr3 hr4
        go_wp2
        go_roundg (l.length - (j + 1))
        case measure => omega
        case rel => exact ⟨j + 1, x, by omega, by go_num, rfl, HLa, hx1, ho6, hb6, HL6.out⟩
    · obtain rfl : j = l.length := by omega
      go_wp2
      go_ret
      rw [HD.out]
      exact ⟨_, rfl, ho, hb⟩
set_option maxHeartbeats 800000 in
theorem at_in (g : Nat) (l : List (List UInt8)) (i : Nat) (w : World) (h : DOk w g l) (hi : i < l.length) (hm : l.length ≤ 16384) (hx : ∀ x ∈ l, x.length ≤ 64) :
    Calls Try.prog 11 #[.pointer (some ⟨g, 0, none⟩), .int .i64 i] w fun e w' => e = .returned (.tuple #[.string (str l[i]), .bool true]) ∧ Below w.heap.size w w' := by
  have HLn := Lib.hid (len_any g l w h)
  obtain ⟨q, hq⟩ : ∃ q, q = i / 4 := ⟨_, rfl⟩
  obtain ⟨m, hmq⟩ : ∃ m, m = i % 4 := ⟨_, rfl⟩
  have HB := Lib.hid (block_any g l q w h (by omega) hm hx)
  have hgl : m < (grp l q).length := by rw [grp_length]; omega
  have hgx : (grp l q)[m] = l[i] := by
    rw [grp_at l (by omega) (by omega)]
    congr 1
    omega
  generalize l[i] = x at hgx ⊢
  have hg4 : (grp l q).length ≤ 4 := by rw [grp_length]; omega
  generalize grp l q = gr at HB hgl hgx hg4
  have h0 : decide ((i : Int) < 0) = false := decide_eq_false (by omega)
  have h1 : decide ((i : Int) ≥ (l.length : Int)) = false := decide_eq_false (by omega)
  have h2 : decide (l.length ≤ i) = false := decide_eq_false (by omega)
  have hdv : ((i : Int) / 4) = (q : Int) := by omega
  have hmd : ((i : Int) % 4) = (m : Int) := by omega
  have HGx := Lib.hid hgx
  have hnn : ¬ (i : Int) < 0 := by omega
  have hwm : IntKind.i64.wrap (m : Int) = (m : Int) := by rw [IntKind.wrap_i64]; omega
  clear h hx hgx hq hmq
  go_enter Try.func11, Try.ntmps11
  go_wp2_with (go_at_call 12; refine HLn.out.mono ?_; rintro e w' ⟨rfl, rfl⟩)
  refine HB.out.mono ?_
  rintro e w1 ⟨v, rfl, ⟨A, c, rfl, hL, hc, hA⟩, hb⟩
  obtain ⟨a, rfl, hcl⟩ := hL.at (k := m) (by simpa using hgl)
  rw [List.getElem_map, HGx.out] at hcl
  unfold vs at hcl
  clear hL HB HLn
  go_wp2
  go_ret2
  exact ⟨rfl, hb⟩
theorem at_out (g : Nat) (l : List (List UInt8)) (i : Int) (w : World) (h : DOk w g l) (hi : i < 0 ∨ (l.length : Int) ≤ i) :
    Calls Try.prog 11 #[.pointer (some ⟨g, 0, none⟩), .int .i64 i] w fun e w' => e = .returned (.tuple #[.string ⟨#[]⟩, .bool false]) ∧ w = w' := by
  have HLn := Lib.hid (len_any g l w h)
  clear h
  by_cases h0 : i < 0
  · have h1 : decide (i < 0) = true := decide_eq_true h0
    go_enter Try.func11, Try.ntmps11
    go_wp2
    go_ret2
    exact ⟨rfl, rfl⟩
  · have h1 : decide (i < 0) = false := decide_eq_false h0
    have h2 : decide (i ≥ (l.length : Int)) = true := decide_eq_true (by omega)
    have h3 : decide ((l.length : Int) ≤ i) = true := decide_eq_true (by omega)
    go_enter Try.func11, Try.ntmps11
    go_wp2_with (go_at_call 12; refine HLn.out.mono ?_; rintro e w' ⟨rfl, rfl⟩)
    go_ret2
    exact ⟨rfl, rfl⟩
end Go.Proofs.Ytjmojfhkajknlaa
