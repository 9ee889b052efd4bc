/- A dictionary read of its own bytes: the walk. -/
import Derived.Test.YtjmojfhkajknlaaDiT
import Derived.Deep.DeepAppendWide
namespace Go.Proofs.Ytjmojfhkajknlaa
open Go.RowKit
set_option linter.unusedVariables false
set_option linter.unusedSimpArgs false
section
variable {P : Program} (w : World)
/-- An append onto a row of the call's own, up to the greatest capacity that it may take. -/
theorem wpList_app_wide {ops : Array Oper} {rest : List Oper} {o : Oper} {a : Act} {Q : Exit → Act → World → Prop} (hgd : o.guard = none) (s x : Operand) (t : TypeId)
    (ho : o.op = .call { callee := .builtin .append, args := #[s, x], argTypes := #[t, t] })
    (base : Nat) (e : TypeId) (z : Value) (size bytes : Nat) (ht : P.underlying t = some (.slice e))
    (hinfo : (P.info? e).map (fun i => (i.zero, i.size, i.bytes)) = some (some z, size, bytes)) (hzs : z.cells.size = size) (hsz : 0 < size)
    (v : Value) (n : Nat) (xs : List Value) (hs : a.eval s = v) (hown : w.ownsRow base e size v n xs)
    (B : Option Addr) (m c : Nat) (news : List Value) (hx : a.eval x = .slice B m c) (hl : news.length = m * size) (hnews : Lies w B news) (h1 : ∀ u ∈ news, u.oneCell' = true) (hB : B = none → c = 0)
    (h63 : n + m ≤ maxLen) (hbytes : ((n + m) + (n + m) / 4 + 192) * bytes ≤ 281474976710656) (hbase : base ≤ w.heap.size)
    (h : ∀ v' w', w'.ownsRow base e size v' (n + m) (xs ++ news) → w.grownBy w' v.ownBlock → wpList P ops Q rest (a.put o.dst v') w') : wpList P ops Q (o :: rest) a w := by
  obtain ⟨i, hi, hz, hsize, hby⟩ := info_parts hinfo
  cases B with
  | some ad =>
    refine wpList_append_own_wide w hgd s x t ho base e i z size bytes ht hi hz hsize hby hzs hsz v n xs hs hown ad m c news hx hl ?_ h1 h63 hbytes hbase (fun v' w' h2 h3 _ => h v' w' h2 h3)
    intro j u hu
    obtain ⟨a, ha, hc⟩ := hnews j u hu
    cases ha
    exact hc
  | none =>
    have hn : news = [] := by
      cases news with
      | nil => rfl
      | cons x news => obtain ⟨a, ha, _⟩ := hnews 0 x rfl; cases ha
    subst hn
    obtain rfl : m = 0 := by
      rcases Nat.eq_zero_or_pos m with h | h
      · exact h
      · have := Nat.mul_pos h hsz; simp at hl; omega
    obtain rfl := hB rfl
    refine wpList_plain hgd fun K hK => ?_
    unfold Oper.wp execOp
    simp only [ho, resolve, invoke, builtin, Sem.run_bind, Sem.run_pure, Result.andThen_ok, List.map_toArray, List.map_cons, List.map_nil, hs, hx, run_append_owned_none w base t o.type e i size ht hi v n xs hown]
    exact hK _ _ (h v w (by simpa using hown) ⟨rfl, rfl, rfl, Nat.le_refl _, fun _ _ _ => rfl⟩)
end
set_option maxHeartbeats 800000 in
theorem readok_wide (A : Option Addr) (c : Nat) (bs : List UInt8) (w : World) (hm : bs.length ≤ 140737490000000) (hA : A = none → c = 0) (hr : RB w A bs) :
    Calls Try.prog 15 #[.slice A bs.length c] w fun e w' => ∃ g, e = .returned (.pointer (some ⟨g, 0, none⟩)) ∧ RdOk w' g bs ∧ w.heap.size ≤ g ∧ Below w.heap.size w w' := by
  have HML : Hid (maxLen = 9223372036854775807) := rfl
  go_enter Try.func15, Try.ntmps15
  go_wp2_with (at_builtin; refine wpList_app_wide _ rfl _ _ 36 rfl w.heap.size 5 _ 1 1 Try.underlying36 info_u8 rfl (by decide) _ 0 [] rfl (World.ownsRow_nil _ _ _ _) A bs.length c (bs.map vb) rfl (by simp) hr (vbs_one bs) hA ?c1 ?c2 ?c3 ?_)
  case c1 => rw [HML.out]; omega
  case c2 => omega
  case c3 => exact Nat.le_refl _
  intro v1 w1 hown1 hg1
  have hb1 : Below w.heap.size w w1 := (Below.refl _ _).grown hg1 (Nat.le_refl _) (by intro k hk; cases hk)
  have ho1 : OB w1 w.heap.size v1 bs := OB.mk hown1 (by simp) (by simp)
  have hol := ho1
  unfold OB at hol
  obtain ⟨A1, c1, rfl, hl1, hA1⟩ := ho1.form
  go_wp2
  go_returns
  refine ⟨_, rfl, ⟨A1, c1, heap_alloc_new w1 _, (RB.of_own ho1).below ((Below.refl _ _).alloc (Nat.le_refl _) _), hA1, hl1, ?_⟩, hb1.size, hb1.alloc hb1.size _⟩
  intro a e
  subst e
  exact (World.ownsRow.lt hol a.block rfl).2
theorem wl_str (l : List (List UInt8)) : wl (l.map str) = l := by
  unfold wl
  rw [List.map_map]
  conv => rhs; rw [← List.map_id l]
  exact List.map_congr_left fun x _ => rfl
theorem map_str (l : List (List UInt8)) : (l.map str).map Value.string = l.map vs := by
  rw [List.map_map]; rfl
theorem OS.kept {w w' : World} {base g : Nat} {v : Value} {l : List (List UInt8)} (h : OS w base v l) (hg : w.grownBy w' (some g)) (hl : g < base) : OS w' base v l := by
  refine World.ownsRow.kept h hg ?_
  cases hv : v.ownBlock with
  | none => exact .inl rfl
  | some k => exact .inr (fun e => by have := (World.ownsRow.lt h k hv).1; injection e; omega)
set_option maxHeartbeats 3200000 in
theorem dread_any (g : Nat) (l : List (List UInt8)) (rest : List UInt8) (w : World) (hck : chk [] l = true) (hm : l.length ≤ 16384) (h : RdOk w g (dictBytes l ++ rest)) (hmr : rest.length ≤ 140737488400000) :
    Calls Try.prog 17 #[.pointer (some ⟨g, 0, none⟩)] w fun e w' => ∃ gd, e = .returned (.pointer (some ⟨gd, 0, none⟩)) ∧ DOk w' gd l ∧ RdOk w' g rest ∧ w.grownBy w' (some g) := by
  have HML : Hid (maxLen = 9223372036854775807) := rfl
  have hx := chk_len hck
  have hel := encGo_le (d := []) hx
  unfold dictBytes at h
  rw [List.append_assoc] at h
  have HN := Lib.hid (rnumok g l.length 16384 _ w (by omega) (by omega) h (by rw [List.length_append]; omega))
  have hgw := h.lt
  have HX := Lib.hid hx
  have HC := Lib.hid hck
  clear h hx hck
  go_enter Try.func17, Try.ntmps17
  go_wp2_with fail
  refine HN.out.mono ?_
  rintro e w1 ⟨rfl, hr, hg⟩
  clear HN
  go_wp2
  go_loopg [3, 4, 5] l.length (fun r v s4 n wr => ∃ (j : Nat) (last : List UInt8), j + r = l.length ∧ n = .int .i64 r ∧ s4 = .string (str last) ∧ Hid (last = lastW [] (l.take j)) ∧ last.length ≤ 64 ∧ OS wr w.heap.size v (l.take j) ∧ RdOk wr g (encGo last (l.drop j) ++ rest) ∧ w.grownBy wr (some g))
  case atStart => exact ⟨0, [], by omega, rfl, rfl, Lib.hid rfl, by simp, World.ownsRow_nil _ _ _ _, hr, hg⟩
  case round =>
    clear hr hg
    obtain ⟨j, last, hj, rfl, rfl, hla, hl64, ho, hr, hg⟩ := hrel
    cases gk with
    | zero =>
      obtain rfl : j = l.length := by omega
      rw [List.take_length] at ho
      rw [List.drop_length] at hr
      have hr : RdOk wr g rest := hr
      have HEr := Lib.hid (rerrok g _ wr hr)
      obtain ⟨A, c, rfl, hL, hlc, hA⟩ := ho.lies
      have hB1 := build_any A c (l.map str) wr (by rw [map_str]; exact hL) (by rw [List.length_map]; omega)
      rw [List.length_map, wl_str] at hB1
      have HB := Lib.hid hB1
      have HW0 : Hid (whyNot l = 0) := by show _ = _; unfold whyNot; rw [if_neg (by omega), if_pos HC.out]
      have HR := Lib.hid hr
      have hsg := hg.size
      clear hB1 hr ho hla hL
      go_wp2_with fail
      refine HEr.out.mono ?_
      rintro e w' ⟨rfl, rfl⟩
      go_wp2_with fail
      refine HB.out.mono ?_
      rintro e w2 ⟨hb, ⟨h0, gd, vH, vB, rfl, hd, hgd⟩ | ⟨h0, rfl⟩⟩
      · clear HB HEr
        go_wp2
        go_ret
        exact ⟨gd, rfl, hd.ok, HR.out.alike hb, Lib.grownBy_below hg hb⟩
      · exact absurd HW0.out h0
    | succ r =>
      have hjn : j < l.length := by omega
      rw [List.drop_eq_getElem_cons hjn] at hr
      have HT : Hid (l.take (j + 1) = l.take j ++ [l[j]]) := by show _ = _; rw [List.take_succ_eq_append_getElem hjn]
      have HL : Hid (l[j] = lastW [] (l.take (j + 1))) := by show _ = _; rw [List.take_succ_eq_append_getElem hjn, lastW_snoc]
      have hx1 := HX.out _ (List.getElem_mem hjn)
      have hel2 := encGo_le (d := l[j]) (l := l.drop (j + 1)) (fun x h => HX.out x (List.mem_of_mem_drop h))
      rw [List.length_drop] at hel2
      have hfit : fitsB last l[j] = true := by
        have h := chk_drop HC.out j
        rw [List.drop_eq_getElem_cons hjn, chk, Bool.and_eq_true, ← hla.out] at h
        exact h.1
      generalize l[j] = x at hr HT HL hx1 hel2 hfit
      obtain ⟨ys, hys⟩ : ∃ ys, ys = l.drop (j + 1) := ⟨_, rfl⟩
      rw [← hys] at hr hel2
      have HY := Lib.hid hys
      clear hys
      have hlt : Op.bytesLess last x = true := by
        unfold fitsB at hfit
        exact (Bool.and_eq_true_iff.1 hfit).1
      have hle : (Op.bytesLess (str x).toList (str last).toList || (str x).toList == (str last).toList) = false := by
        rw [str_toList', str_toList']
        have := le8_iff (a := x) (b := last)
        unfold le8 at this
        rw [this, hlt]; rfl
      rw [encGo] at hr
      have hk1 := likeL_le x last
      have HJ := Lib.hid (word_join last x)
      have hcw : codeW last x ++ encGo x ys ++ rest = numBytes (likeL x last) ++ (numBytes (x.drop (likeL x last)).length ++ (x.drop (likeL x last) ++ (encGo x ys ++ rest))) := by
        unfold codeW textBytes; simp only [List.append_assoc]
      rw [hcw] at hr
      have hdl : (x.drop (likeL x last)).length ≤ 64 := by rw [List.length_drop]; omega
      have HLk : Hid (∀ w, Calls Try.prog 28 #[.string (str x), .string (str last)] w fun e w' => e = .returned (.int .i64 (likeL x last)) ∧ ∃ q, w' = w.drewN q) := fun w => like_any (str x) (str last) w (by rw [str_size]; omega) (by rw [str_size]; omega)
      clear hcw hfit hlt
      generalize likeL x last = k at hr hk1 HJ hdl HLk
      generalize x.drop k = tx at hr HJ hdl
      have hnl : (numBytes tx.length).length ≤ 9 := numBytes_le _
      have hrl : (encGo x ys ++ rest).length ≤ 140737489800000 := by rw [List.length_append]; omega
      obtain ⟨rs, hrs⟩ : ∃ rs, rs = encGo x ys ++ rest := ⟨_, rfl⟩
      rw [← hrs] at hr hrl
      have HRs := Lib.hid hrs
      clear hrs
      have HEr : Hid (∀ w' bs, RdOk w' g bs → Calls Try.prog 18 #[.pointer (some ⟨g, 0, none⟩)] w' fun e w'' => e = .returned (.int .i64 0) ∧ w' = w'') := fun w' bs h => rerrok g bs w' h
      have HN := Lib.hid (rnumok g k (last.length : Int) _ wr (by omega) (by omega) hr (by simp only [List.length_append]; omega))
      have HR := Lib.hid hr
      have hsl : (str last).size = last.length := str_size _
      have hsx : (str x).size = x.length := str_size _
      have hkl : (k : Int) ≤ (last.length : Int) := by omega
      have hgr1 : ((r + 1 : Nat) : Int) > 0 := by omega
      have hgq : decide (((r + 1 : Nat) : Int) > 0) = true := decide_eq_true hgr1
      have hsub : ((r + 1 : Nat) : Int) - 1 = (r : Int) := by omega
      clear hr
      go_wp2_with (first
        | (go_at_call 18; refine (HEr.out _ _ HR.out).mono ?_; rintro e w' ⟨rfl, rfl⟩)
        | (go_at_call 30; refine HN.out.mono ?_; rintro e w3 ⟨rfl, hR3, hg3⟩))
      have HTx := Lib.hid (rtextok g 64 tx rs w3.drew (by omega) (hR3.heap rfl) (by omega))
      have ho3 := ho.kept hg3 hgw
      have hg03 := Lib.grownBy_trans hg hg3
      have s2 : (str tx).size = tx.length := str_size _
      have hif : ¬ (9223372036854775807 < k + tx.length) := by omega
      have hlx := hR3.lt
      have ho3d : OS w3.drew w.heap.size u3 (l.take j) := ho3
      have hg03d : w.grownBy w3.drew (some g) := Lib.grownBy_below hg03 ((Below.refl _ _).drew)
      clear HN HR hg hg3 ho hR3 ho3 hg03
      go_region_law (first
        | (go_simp; go_at_call 31; refine HTx.out.mono ?_; rintro e w4 ⟨rfl, hR4, hg4⟩))
      all_goals simp only [Act.put, List.getElem_toArray, List.getElem_cons_succ, List.getElem_cons_zero, List.setIfInBounds_toArray, List.set_cons_zero, List.set_cons_succ]
      all_goals rw [HJ.out]
      all_goals
        have ho4 := ho3d.kept hg4 hgw
        have hg04 := Lib.grownBy_trans hg03d hg4
        have HR4 := Lib.hid hR4
        have hkq : ((k : Int) != (k : Int)) = false := bne_self_eq_false _
        have hx64 : ¬ ((x.length : Int) > 64) := by omega
        have hx64q : decide ((x.length : Int) > 64) = false := decide_eq_false hx64
        clear HTx ho3d hg03d hg4 hR4
        have hlt : (l.take j).length ≤ 16384 := by rw [List.length_take]; omega
        obtain ⟨tk, htk⟩ : ∃ tk, tk = l.take j := ⟨_, rfl⟩
        rw [← htk] at ho4 hlt
        have HT2 : Hid (l.take (j + 1) = tk ++ [x]) := by show _ = _; rw [HT.out, htk]
        clear htk
        unfold OS at ho4
        have hs4 := hg04.size
        go_wp2_with (first
          | (go_at_call 18; refine (HEr.out _ _ HR4.out).mono ?_; rintro e w' ⟨rfl, rfl⟩)
          | (go_at_call 28; refine (HLk.out _).mono ?_; rintro e w5 ⟨rfl, q, rfl⟩)
          | (at_builtin; refine wpList_one rfl _ _ 22 rfl w.heap.size 9 _ 16 Try.underlying22 info_str rfl _ tk.length (tk.map vs) rfl (World.ownsRow.alloc (show World.ownsRow (w4.drewN q) _ _ _ _ _ _ from ho4) _) ⟨w4.heap.size, 0, none⟩ (vs x) rfl (tmp_here (w4.drewN q) (vs x) _) rfl (by rw [HML.out]; omega) (by omega) (Nat.le_trans hs4 (size_alloc_le (w4.drewN q) _)) ?_; intro g6 c6 w6 hown6 hg6 hat6 hlt6))
        have ho6 : OS w6 w.heap.size (.slice (some ⟨g6, 0, none⟩) (tk.length + 1) c6) (tk ++ [x]) := by
          unfold OS
          rw [List.length_append, List.map_append]
          exact hown6
        have hrow := fun k hk => (World.ownsRow.lt ho4 k hk).1
        have hR6 : RdOk w6 g rs := ((show RdOk (w4.drewN q) g rs from HR4.out.heap rfl).alike ((Below.refl (w4.drewN q).heap.size _).alloc (Nat.le_refl _) _)).own hg6 (fun k hk => Nat.lt_of_lt_of_le hgw (hrow k hk))
        have hg45 : w.grownBy (w4.drewN q) (some g) := Lib.grownBy_below hg04 (below_drewN (Below.refl w4.heap.size _) q)
        have hg06 := grownBy_new (Lib.grownBy_allocR hg45 (.cells #[vs x] 9)) hg6 hrow
        clear hg45 hown6 hg6 hat6 ho4 HR4
        go_roundg r
        case measure => omega
        case rel => exact ⟨j + 1, x, by omega, rfl, rfl, HL, hx1, by rw [HT2.out]; exact ho6, by rw [← HY.out, ← HRs.out]; exact hR6, hg06⟩
end Go.Proofs.Ytjmojfhkajknlaa
