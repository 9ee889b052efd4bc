/- The reader's numbers, texts, numbers that rise, where they are there. -/
import Derived.Test.YtbeejmedekgjjaaCoI
namespace Go.Proofs.Ytbeejmedekgjjaa
open Go.RowKit
set_option linter.unusedVariables false
set_option linter.unusedSimpArgs false
set_option maxHeartbeats 800000 in
theorem rnumok (g x : Nat) (most : Int) (rest : List UInt8) (w : World) (hx : x < 9223372036854775808) (hxm : (x : Int) ≤ most) (h : RdOk w g (numBytes x ++ rest)) (hm : rest.length ≤ 140737490000000) :
    Calls Try.prog 34 #[.pointer (some ⟨g, 0, none⟩), .int .i64 most] w fun e w' => e = .returned (.int .i64 x) ∧ RdOk w' g rest ∧ w.grownBy w' (some g) := by
  have HR := Lib.hid (raw_ok g x rest w (by omega) h hm)
  have hq : ((x : Int) / 9223372036854775808 == 1) = false := beq_eq_false_iff_ne.mpr (by omega)
  go_enter Try.func34, Try.ntmps34
  go_wp2_with fail
  refine HR.out.mono ?_
  rintro e w1 ⟨rfl, hr, hg⟩
  go_wp2
  go_returns
  exact ⟨rfl, hr, hg⟩
theorem unzig {n : Int} (h0 : -9223372036854775808 ≤ n) (h1 : n ≤ 9223372036854775807) : wrap64 (Go.bits .xor .u64 (((signNat n : Nat) : Int) / 2) (IntKind.u64.wrap (-Go.bits .and .u64 ((signNat n : Nat) : Int) 1))) = n := by
  have hs := signNat_lt h0 h1
  rw [show (1 : Int) = ((1 : Nat) : Int) from rfl, u64_and_nat _ _ hs (by decide), Nat.and_one_is_mod]
  unfold signNat at hs ⊢
  split
  · rename_i h
    rw [if_pos h] at hs
    have e1 : ((2 * (-(n + 1)).toNat + 1 : Nat) : Int) / 2 = (((-(n + 1)).toNat : Nat) : Int) := by omega
    have e2 : (2 * (-(n + 1)).toNat + 1) % 2 = 1 := by omega
    have e3 : IntKind.u64.wrap (-((1 : Nat) : Int)) = ((18446744073709551615 : Nat) : Int) := by decide
    rw [e1, e2, e3, u64_xor_nat _ _ (by omega) (by decide), xor_ones (by omega)]
    unfold wrap64
    omega
  · rename_i h
    rw [if_neg h] at hs
    have e1 : ((2 * n.toNat : Nat) : Int) / 2 = ((n.toNat : Nat) : Int) := by omega
    have e2 : (2 * n.toNat) % 2 = 0 := by omega
    have e3 : IntKind.u64.wrap (-((0 : Nat) : Int)) = ((0 : Nat) : Int) := by decide
    rw [e1, e2, e3, u64_xor_nat _ _ (by omega) (by decide), Nat.xor_zero]
    unfold wrap64
    omega
set_option maxHeartbeats 800000 in
theorem rtextok (g : Nat) (most : Int) (bs rest : List UInt8) (w : World) (hb : (bs.length : Int) ≤ most) (h : RdOk w g (numBytes bs.length ++ (bs ++ rest))) (hm : bs.length + rest.length ≤ 140737490000000) :
    Calls Try.prog 52 #[.pointer (some ⟨g, 0, none⟩), .int .i64 most] w fun e w' => e = .returned (.string (str bs)) ∧ RdOk w' g rest ∧ w.grownBy w' (some g) := by
  have HR := Lib.hid (rnumok g bs.length most (bs ++ rest) w (by omega) hb h (by rw [List.length_append]; omega))
  go_enter Try.func52, Try.ntmps52
  go_wp2_with fail
  refine HR.out.mono ?_
  rintro e w1 ⟨rfl, hr, hg⟩
  have HT := take_ok g bs.length (bs ++ rest) w1 hr (by rw [List.length_append]; omega) (by rw [List.length_append]; omega)
  rw [List.take_append_of_le_length (Nat.le_refl _), List.take_of_length_le (Nat.le_refl _), List.drop_append_of_le_length (Nat.le_refl _), List.drop_of_length_le (Nat.le_refl _), List.nil_append] at HT
  have HT := Lib.hid HT
  go_wp2_with fail
  refine HT.out.mono ?_
  rintro e w2 ⟨A2, rfl, r2, hA2, hr2, hg2⟩
  have kc := RB.str (P := Try.prog) (src := 23) (dst := 9) Try.underlying23 Try.underlying5 Try.underlying9 r2 bs.length bs.length rfl
  go_wp2
  go_returns
  exact ⟨rfl, hr2, Lib.grownBy_trans hg hg2⟩
theorem rerrok (g : Nat) (bs : List UInt8) (w : World) (h : RdOk w g bs) :
    Calls Try.prog 39 #[.pointer (some ⟨g, 0, none⟩)] w fun e w' => e = .returned (.int .i64 0) ∧ w = w' := by
  obtain ⟨A, c, h⟩ := h
  have h1 := h.err
  have h2 := h.made
  go_enter Try.func39, Try.ntmps39
  go_wp2
  go_returns
  exact ⟨rfl, rfl⟩
theorem rleftok (g : Nat) (bs : List UInt8) (w : World) (h : RdOk w g bs) :
    Calls Try.prog 54 #[.pointer (some ⟨g, 0, none⟩)] w fun e w' => e = .returned (.int .i64 bs.length) ∧ w = w' := by
  obtain ⟨A, c, h⟩ := h
  have h0 := h.rest
  go_enter Try.func54, Try.ntmps54
  go_wp2
  go_returns
  exact ⟨rfl, rfl⟩
set_option maxHeartbeats 800000 in
theorem readok (A : Option Addr) (c : Nat) (bs : List UInt8) (w : World) (hm : bs.length ≤ 140737488355328) (hA : A = none → c = 0) (hr : RB w A bs) :
    Calls Try.prog 33 #[.slice A bs.length c] w fun e w' => ∃ g, e = .returned (.pointer (some ⟨g, 0, none⟩)) ∧ RdOk w' g bs ∧ w.heap.size ≤ g ∧ Below w.heap.size w w' := by
  have HML : Hid (maxLen = 9223372036854775807) := rfl
  go_enter Try.func33, Try.ntmps33
  go_wp2_with (at_builtin; refine wpList_app _ rfl _ _ 23 rfl w.heap.size 5 _ 1 1 Try.underlying23 info_u8 rfl (by decide) _ 0 [] rfl (World.ownsRow_nil _ _ _ _) A bs.length c (bs.map vb) rfl (by simp) hr (vbs_one bs) hA ?c1 ?c2 ?c3 ?_)
  case c1 => rw [HML.out]; omega
  case c2 => omega
  case c3 => exact Nat.le_refl _
  intro v1 w1 hown1 hg1 _
  have hb1 : Below w.heap.size w w1 := (Below.refl _ _).grown hg1 (Nat.le_refl _) (by intro k hk; cases hk)
  have ho1 : OB w1 w.heap.size v1 bs := OB.mk hown1 (by simp) (by simp)
  have hol := ho1
  unfold OB at hol
  obtain ⟨A1, c1, rfl, hl1, hA1⟩ := ho1.form
  go_wp2
  go_returns
  refine ⟨_, rfl, ⟨A1, c1, heap_alloc_new w1 _, (RB.of_own ho1).below ((Below.refl _ _).alloc (Nat.le_refl _) _), hA1, hl1, ?_⟩, hb1.size, hb1.alloc hb1.size _⟩
  intro a e
  subst e
  exact (World.ownsRow.lt hol a.block rfl).2
theorem info_i64 : (Try.prog.info? 3).map (fun i => (i.zero, i.size, i.bytes)) = some (some (.int .i64 0), 1, 8) := by kernel_rfl
/-- Numbers that the call itself made. -/
def OI (w : World) (base : Nat) (v : Value) (l : List Int) : Prop := w.ownsRow base 3 1 v l.length (l.map (Value.int .i64))
theorem OI.form {w : World} {base : Nat} {v : Value} {l : List Int} (h : OI w base v l) : ∃ A c, v = .slice A l.length c ∧ l.length ≤ c ∧ (A = none → c = 0) := by
  rcases h.2 with ⟨rfl, h0⟩ | ⟨g, cap, cur, rfl, _, _, h, _⟩
  · exact ⟨_, _, by rw [h0], by omega, fun _ => rfl⟩
  · exact ⟨_, _, rfl, h, fun h => by cases h⟩
theorem OI.below {w w' : World} {base : Nat} {v : Value} {l : List Int} (h : OI w base v l) (hb : Below w.heap.size w w') : OI w' base v l := by
  refine World.ownsRow.kept h (row := none) ⟨hb.os, hb.tape, hb.output, hb.size, fun k hk _ => hb.block k hk⟩ ?_
  cases v.ownBlock <;> simp
theorem OI.mk {w : World} {base n : Nat} {v : Value} {xs : List Value} {l : List Int} (h : w.ownsRow base 3 1 v n xs) (hn : n = l.length) (hx : xs = l.map (Value.int .i64)) : OI w base v l := by
  subst hn
  subst hx
  exact h
theorem OI.mono {w : World} {base base' : Nat} {v : Value} {l : List Int} (h : OI w base v l) (hb : base' ≤ base) : OI w base' v l := by
  refine ⟨h.1, ?_⟩
  rcases h.2 with h | ⟨g, cap, cur, hv, hg, r⟩
  · exact .inl h
  · exact .inr ⟨g, cap, cur, hv, Nat.le_trans hb hg, r⟩
theorem OI.kept {w w' : World} {base g : Nat} {v : Value} {l : List Int} (h : OI w base v l) (hg : w.grownBy w' (some g)) (hl : g < base) : OI w' base v l := by
  refine World.ownsRow.kept h hg ?_
  cases hv : v.ownBlock with
  | none => exact .inl rfl
  | some k => exact .inr (fun e => by have := (World.ownsRow.lt h k hv).1; injection e; omega)
theorem RdOk.lt {w : World} {g : Nat} {bs : List UInt8} (h : RdOk w g bs) : g < w.heap.size := by
  obtain ⟨A, c, h⟩ := h
  exact h.lt
theorem RdOk.own {w w' : World} {g : Nat} {bs : List UInt8} {row : Option Nat} (h : RdOk w g bs) (hg : w.grownBy w' row) (hr : ∀ k, row = some k → g < k) : RdOk w' g bs := by
  obtain ⟨A, c, h⟩ := h
  refine ⟨A, c, ?_, Lies.grown h.bytes hg (fun a e e2 => ?_), h.cap0, h.cap, h.block⟩
  · rw [hg.block g h.lt (fun e => ?_)]
    · exact h.cells
    · have := hr g e.symm; omega
  · have := hr _ e2.symm; have := h.block a e; omega
theorem grownBy_new {w w1 w2 : World} {row row2 : Option Nat} (h : w.grownBy w1 row) (h2 : w1.grownBy w2 row2) (hr : ∀ k, row2 = some k → w.heap.size ≤ k) : w.grownBy w2 row :=
  ⟨h2.os.trans h.os, h2.tape.trans h.tape, h2.output.trans h.output, Nat.le_trans h.size h2.size, fun k hk hne => by
    rw [h2.block k (Nat.lt_of_lt_of_le hk h.size) (fun e => by have := hr k e.symm; omega), h.block k hk hne]⟩
/-- Numbers, each above the one ahead, the first above -1. -/
def Up (l : List Int) : Prop := ∀ j (h : j < l.length), lastOf (-1) (l.take j) < l[j]
theorem Up.last {l : List Int} (h : Up l) : ∀ j, j ≤ l.length → -1 ≤ lastOf (-1) (l.take j) := by
  intro j
  induction j with
  | zero => intro _; simp [lastOf]
  | succ j ih =>
    intro hj
    have h1 := ih (by omega)
    have h2 := h j (by omega)
    rw [List.take_succ_eq_append_getElem (show j < l.length by omega), lastOf_snoc]
    omega
set_option maxHeartbeats 1600000 in
theorem rrisingok (g : Nat) (many top : Int) (l : List Int) (rest : List UInt8) (w : World) (hll : l.length ≤ 100) (hlm : (l.length : Int) ≤ many) (hup : Up l) (hlt : ∀ z ∈ l, z ≤ top) (htop : top ≤ 9223372036854775807)
    (h : RdOk w g (numBytes l.length ++ (gapBytes (-1) l ++ rest))) (hm : rest.length ≤ 140737488354300) :
    Calls Try.prog 58 #[.pointer (some ⟨g, 0, none⟩), .int .i64 many, .int .i64 top] w fun e w' => ∃ v, e = .returned v ∧ OI w' w.heap.size v l ∧ RdOk w' g rest ∧ w.grownBy w' (some g) := by
  have HML : Hid (maxLen = 9223372036854775807) := rfl
  have hgl := gapBytes_le l (-1)
  have HR := Lib.hid (rnumok g l.length many (gapBytes (-1) l ++ rest) w (by omega) hlm h (by rw [List.length_append]; omega))
  have hgw := h.lt
  go_enter Try.func58, Try.ntmps58
  go_wp2_with fail
  refine HR.out.mono ?_
  rintro e w1 ⟨rfl, hr, hg⟩
  clear HR h
  go_wp2
  go_loopg [8, 9, 14] l.length (fun r v last i wr => ∃ j : Nat, j + r = l.length ∧ i = .int .i64 j ∧ last = .int .i64 (lastOf (-1) (l.take j)) ∧ OI wr w.heap.size v (l.take j) ∧ RdOk wr g (gapBytes (lastOf (-1) (l.take j)) (l.drop j) ++ rest) ∧ w.grownBy wr (some g))
  case atStart => exact ⟨0, by omega, rfl, rfl, World.ownsRow_nil _ _ _ _, hr, hg⟩
  case round =>
    clear hr hg
    obtain ⟨j, hj, rfl, rfl, ho, hr, hg⟩ := hrel
    by_cases hjk : j < l.length
    · have h1 := hup j hjk
      have h2 := hup.last j (by omega)
      have h3 := hlt _ (List.getElem_mem hjk)
      have HL : Hid (lastOf (-1) (l.take (j + 1)) = l[j]) := by show _ = _; rw [List.take_succ_eq_append_getElem hjk, lastOf_snoc]
      have HT : Hid (l.take (j + 1) = l.take j ++ [l[j]]) := by show _ = _; rw [List.take_succ_eq_append_getElem hjk]
      have hgd := gapBytes_le (l.drop (j + 1)) l[j]
      have hdl : (l.drop (j + 1)).length ≤ l.length := by simp
      rw [List.drop_eq_getElem_cons hjk, gapBytes, List.append_assoc] at hr
      generalize lastOf (-1) (l.take j) = last at h1 h2 hr ⊢
      generalize hxe : l[j] = x at h1 h3 hr HL HT hgd
      clear hxe
      obtain ⟨tl, htl⟩ : ∃ tl, tl = l.take j := ⟨_, rfl⟩
      have htll : tl.length = j := by rw [htl, List.length_take]; omega
      rw [← htl] at ho HT
      have HTl := Lib.hid htll
      clear htl htll
      obtain ⟨gn, hgn⟩ : ∃ gn, gn = (x - last - 1).toNat := ⟨_, rfl⟩
      rw [← hgn] at hr
      have hgn2 : (gn : Int) = x - last - 1 := by omega
      clear hgn
      have hmx : max top (-1) = top := by omega
      have hwr := gap_of (x := top) (d := last) (by omega) h2 htop
      have HW : Hid (wrap64 (last + wrap64 (1 + (gn : Int))) = x) := by show _ = _; rw [hgn2]; unfold wrap64; omega
      have HR := Lib.hid (rnumok g gn (top - last - 1) (gapBytes x (l.drop (j + 1)) ++ rest) wr (by omega) (by omega) hr (by rw [List.length_append]; omega))
      clear hgn2
      go_wp2_with fail
      refine HR.out.mono ?_
      rintro e w2 ⟨rfl, hr2, hg2⟩
      have ho2 := ho.kept hg2 hgw
      have hgt := Lib.grownBy_trans hg hg2
      clear ho hr hg hg2 hwr HR
      go_wp2_with fail
      refine (rerrok g _ w2 hr2).mono ?_
      rintro e w3 ⟨rfl, rfl⟩
      rw [HW.out]
      have hol := ho2
      unfold OI at hol
      have hsz := hgt.size
      have hn100 : tl.length ≤ 100 := by rw [HTl.out]; omega
      go_wp2_with (at_builtin; (refine wpList_app _ rfl _ _ 35 rfl w.heap.size 3 _ 1 8 Try.underlying35 info_i64 rfl (by decide) _ _ _ rfl (World.ownsRow.alloc hol _) (some ⟨w2.heap.size, 0, none⟩) 1 1 [.int .i64 x] rfl rfl (Lies.new w2 3 _ (0, 0)) (by intro u hu; cases List.mem_singleton.1 hu; rfl) (by simp) ?c1 ?c2 ?c3 ?_))
      case c1 => rw [HML.out]; omega
      case c2 => omega
      case c3 => simp; omega
      intro v3 w3 hown3 hg3 _
      have ho3 : OI w3 w.heap.size v3 (tl ++ [x]) := OI.mk hown3 (by simp) (by simp)
      have hgal : w.grownBy (w2.alloc (.cells #[.int .i64 x] 3)) (some g) := Lib.grownBy_allocR hgt _
      have hrow := fun k hk => (World.ownsRow.lt hol k hk).1
      have hg3' := grownBy_new hgal hg3 hrow
      have hbal : Below w2.heap.size w2 (w2.alloc (.cells #[.int .i64 x] 3)) := (Below.refl _ _).alloc (Nat.le_refl _) _
      have hr3 : RdOk w3 g (gapBytes x (l.drop (j + 1)) ++ rest) := (hr2.alike hbal).own hg3 (fun k hk => Nat.lt_of_lt_of_le hgw (hrow k hk))
      clear hr2 hown3 hg3 hol ho2
      go_wp2
      go_roundg (l.length - (j + 1))
      case measure => omega
      case rel => exact ⟨j + 1, by omega, by go_num, by rw [HL.out], by rw [HT.out]; exact ho3, by rw [HL.out]; exact hr3, hg3'⟩
    · obtain rfl : j = l.length := by omega
      go_wp2
      go_returns
      rw [List.take_length] at ho
      rw [List.drop_length] at hr
      exact ⟨_, rfl, ho, hr, hg⟩
end Go.Proofs.Ytbeejmedekgjjaa
