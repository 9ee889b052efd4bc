/- The walk of the law of both. -/
import Derived.Test.YtopgikjmeebgbaaDoorBp
namespace Go.Proofs.YtopgikjmeebgbaaDoor
open Go.RowKit
set_option linter.unusedVariables false
set_option linter.unusedSimpArgs false
set_option maxHeartbeats 3200000 in
theorem bitsBoth_walk (n m : Int) (A : Option Addr) (c : Nat) (l : List (Int × Int)) (A2 : Option Addr) (c2 : Nat) (k : List (Int × Int)) (w : World) (_hn : (Lit.int .i64 n).wf = true) (_hm : (Lit.int .i64 m).wf = true)
    (hr : Lies w A (l.flatMap dc)) (hA : A = none → c = 0) (hlc : l.length ≤ c) (hm : l.length ≤ 9223372036854775807) (hr2 : Lies w A2 (k.flatMap dc)) (hA2 : A2 = none → c2 = 0) (hlc2 : k.length ≤ c2) (hm2 : k.length ≤ 9223372036854775807) (hT : Tab w) :
    Calls Tryd.prog 6 #[.int .i64 n, .int .i64 m, .slice A l.length c, .slice A2 k.length c2] w fun e w' => e = .returned (.bool true) ∧ Below w.heap.size w w' := by
  have HM1 := Lib.hid (made_any n A c l w hr hA hlc hm)
  have HM2 := Lib.hid (fun w' (hb : Below w.heap.size w w') => made_any m A2 c2 k w' (hr2.below hb) hA2 hlc2 hm2)
  have HT := Lib.hid hT
  clear hr hA hlc hm hr2 hA2 hlc2 hm2 hT _hn _hm
  go_enter Tryd.func6, Tryd.ntmps6
  go_upto_region 3 with (first
    | (go_at_call 16; refine HM1.out.mono ?_; rintro e w1 ⟨g, W, gr, R, bs, rfl, hP1, hbl1, hW1, hb1⟩; clear HM1)
    | (go_at_call 16; refine (HM2.out _ hb1).mono ?_; rintro e w2 ⟨g', W', gr', R', bs', rfl, hP2, hbl2, hW2, hb12⟩; clear HM2))
  have hb2 := hb1.trans (hb12.mono hb1.size)
  have hP1 := hP1.below hb12
  have hT2 := HT.out.below hb2
  have h00 : Below w2.heap.size w2 w2 := Below.refl _ _
  have HSame : Hid (∀ (w' : World) (g W gr R : Nat) (zs : List Bool), Below w2.heap.size w2 w' → SetAt w' g W zs → RefAt w' gr R zs → Calls Tryd.prog 19 #[.pointer (some ⟨g, 0, none⟩), .pointer (some ⟨gr, 0, none⟩)] w' fun e w'' => e = .returned (.bool true) ∧ Below w2.heap.size w2 w'') :=
    fun w' g W gr R zs hb hS hR => (same_any g W gr R zs w' hS hR (hT2.below hb)).mono fun e w'' ⟨h1, h2⟩ => ⟨h1, hb.trans (h2.mono hb.size)⟩
  have HAnd : Hid (∀ w', Below w2.heap.size w2 w' → Calls Tryd.prog 23 #[.pointer (some ⟨g, 0, none⟩), .pointer (some ⟨g', 0, none⟩)] w' fun e w'' => ∃ go Wo, e = .returned (.pointer (some ⟨go, 0, none⟩)) ∧ SetAt w'' go Wo (List.zipWith fAnd bs bs') ∧ Below w2.heap.size w2 w'') :=
    fun w' hb => (and_any g W g' W' bs bs' w' (hP1.set.below hb) (hP2.set.below hb)).mono fun e w'' ⟨go, Wo, h1, h2, h3, h4⟩ => ⟨go, Wo, h1, h2, hb.trans (h4.mono hb.size)⟩
  have HOr : Hid (∀ w', Below w2.heap.size w2 w' → Calls Tryd.prog 25 #[.pointer (some ⟨g, 0, none⟩), .pointer (some ⟨g', 0, none⟩)] w' fun e w'' => ∃ go Wo, e = .returned (.pointer (some ⟨go, 0, none⟩)) ∧ SetAt w'' go Wo (List.zipWith fOr bs bs') ∧ Below w2.heap.size w2 w'') :=
    fun w' hb => (or_any g W g' W' bs bs' w' (hP1.set.below hb) (hP2.set.below hb)).mono fun e w'' ⟨go, Wo, h1, h2, h3, h4⟩ => ⟨go, Wo, h1, h2, hb.trans (h4.mono hb.size)⟩
  have HLess : Hid (∀ w', Below w2.heap.size w2 w' → Calls Tryd.prog 26 #[.pointer (some ⟨g, 0, none⟩), .pointer (some ⟨g', 0, none⟩)] w' fun e w'' => ∃ go Wo, e = .returned (.pointer (some ⟨go, 0, none⟩)) ∧ SetAt w'' go Wo (List.zipWith fLess bs bs') ∧ Below w2.heap.size w2 w'') :=
    fun w' hb => (less_any g W g' W' bs bs' w' (hP1.set.below hb) (hP2.set.below hb)).mono fun e w'' ⟨go, Wo, h1, h2, h3, h4⟩ => ⟨go, Wo, h1, h2, hb.trans (h4.mono hb.size)⟩
  have H0 : Hid (∀ w', Below w2.heap.size w2 w' → Calls Tryd.prog 24 #[.pointer (some ⟨gr, 0, none⟩), .pointer (some ⟨gr', 0, none⟩), .int .i64 0] w' fun e w'' => ∃ go Wo, e = .returned (.pointer (some ⟨go, 0, none⟩)) ∧ RefAt w'' go Wo (List.zipWith fAnd bs bs') ∧ Below w'.heap.size w' w'' ∧ Below w2.heap.size w2 w'') :=
    fun w' hb => (rboth0 gr R gr' R' bs bs' w' (hP1.ref.below hb) (hP2.ref.below hb)).mono fun e w'' ⟨go, Wo, h1, h2, h3, h4⟩ => ⟨go, Wo, h1, h2, h4, hb.trans (h4.mono hb.size)⟩
  have H1 : Hid (∀ w', Below w2.heap.size w2 w' → Calls Tryd.prog 24 #[.pointer (some ⟨gr, 0, none⟩), .pointer (some ⟨gr', 0, none⟩), .int .i64 1] w' fun e w'' => ∃ go Wo, e = .returned (.pointer (some ⟨go, 0, none⟩)) ∧ RefAt w'' go Wo (List.zipWith fOr bs bs') ∧ Below w'.heap.size w' w'' ∧ Below w2.heap.size w2 w'') :=
    fun w' hb => (rboth1 gr R gr' R' bs bs' w' (hP1.ref.below hb) (hP2.ref.below hb)).mono fun e w'' ⟨go, Wo, h1, h2, h3, h4⟩ => ⟨go, Wo, h1, h2, h4, hb.trans (h4.mono hb.size)⟩
  have H2 : Hid (∀ w', Below w2.heap.size w2 w' → Calls Tryd.prog 24 #[.pointer (some ⟨gr, 0, none⟩), .pointer (some ⟨gr', 0, none⟩), .int .i64 2] w' fun e w'' => ∃ go Wo, e = .returned (.pointer (some ⟨go, 0, none⟩)) ∧ RefAt w'' go Wo (List.zipWith fLess bs bs') ∧ Below w'.heap.size w' w'' ∧ Below w2.heap.size w2 w'') :=
    fun w' hb => (rboth2 gr R gr' R' bs bs' w' (hP1.ref.below hb) (hP2.ref.below hb)).mono fun e w'' ⟨go, Wo, h1, h2, h3, h4⟩ => ⟨go, Wo, h1, h2, h4, hb.trans (h4.mono hb.size)⟩
  have HCl : Hid (∀ w', Below w2.heap.size w2 w' → Calls Tryd.prog 27 #[.pointer (some ⟨g, 0, none⟩)] w' fun e w'' => ∃ go Wo, e = .returned (.pointer (some ⟨go, 0, none⟩)) ∧ SetAt w'' go Wo bs ∧ w2.heap.size ≤ Wo ∧ Below w2.heap.size w2 w'') :=
    fun w' hb => (clone_any g W bs w' (hP1.set.below hb)).mono fun e w'' ⟨go, Wo, h1, h2, h3, h4⟩ => ⟨go, Wo, h1, h2, Nat.le_trans hb.size h3, hb.trans (h4.mono hb.size)⟩
  have HPu : Hid (∀ (w' : World) (gc Wc : Nat) (zs : List Bool), SetAt w' gc Wc zs → Calls Tryd.prog 14 #[.pointer (some ⟨gc, 0, none⟩), .int .i64 0] w' fun e w'' => ∃ b zs', e = .returned (.bool b) ∧ SetAt w'' gc Wc zs' ∧ w'.grownBy w'' (some Wc)) :=
    fun w' gc Wc zs h => (put_any gc Wc zs 0 w' h).mono fun e w'' ⟨h1, h2, h3⟩ => ⟨_, _, h1, h2, h3⟩
  have HCu : Hid (∀ (w' : World) (gc Wc : Nat) (zs : List Bool), SetAt w' gc Wc zs → Calls Tryd.prog 28 #[.pointer (some ⟨gc, 0, none⟩), .int .i64 1] w' fun e w'' => ∃ b zs', e = .returned (.bool b) ∧ SetAt w'' gc Wc zs' ∧ w'.grownBy w'' (some Wc)) :=
    fun w' gc Wc zs h => (cut_any gc Wc zs 1 w' h).mono fun e w'' ⟨h1, h2, h3⟩ => ⟨_, _, h1, h2, h3⟩
  have HP1 := Lib.hid hP1
  have HP2 := Lib.hid hP2
  have HT2 := Lib.hid hT2
  generalize List.zipWith fAnd bs bs' = z0 at HAnd H0
  generalize List.zipWith fOr bs bs' = z1 at HOr H1
  generalize List.zipWith fLess bs bs' = z2 at HLess H2
  clear hP1 hP2 hT2 HT hb12 hW1 hW2
  go_wp2_with (first
    | (go_at_call 23; refine (HAnd.out _ (by assumption)).mono ?_; rintro e w3 ⟨ga, Wa, rfl, hSa, hb3⟩)
    | (go_at_call 25; refine (HOr.out _ (by assumption)).mono ?_; rintro e w6 ⟨ga', Wa', rfl, hSo, hb6⟩)
    | (go_at_call 26; refine (HLess.out _ (by assumption)).mono ?_; rintro e w9 ⟨ga'', Wa'', rfl, hSl, hb9⟩)
    | (go_at_call 24; refine (H0.out _ hb3).mono ?_; rintro e w4 ⟨gc, Rc, rfl, hRc, hl4, hb4⟩; have hs1 := Lib.hid (HSame.out w4 _ _ _ _ _ hb4 (hSa.below hl4) hRc); clear H0 HAnd hSa hRc)
    | (go_at_call 24; refine (H1.out _ hb6).mono ?_; rintro e w7 ⟨gc', Rc', rfl, hRc', hl7, hb7⟩; have hs2 := Lib.hid (HSame.out w7 _ _ _ _ _ hb7 (hSo.below hl7) hRc'); clear H1 HOr hSo hRc')
    | (go_at_call 24; refine (H2.out _ hb9).mono ?_; rintro e w10 ⟨gc'', Rc'', rfl, hRc'', hl10, hb10⟩; have hs3 := Lib.hid (HSame.out w10 _ _ _ _ _ hb10 (hSl.below hl10) hRc''); clear H2 HLess hSl hRc'')
    | (go_at_call 19; refine hs1.out.mono ?_; rintro e w5 ⟨rfl, hb5⟩; clear hs1)
    | (go_at_call 19; refine hs2.out.mono ?_; rintro e w8 ⟨rfl, hb8⟩; clear hs2)
    | (go_at_call 19; refine hs3.out.mono ?_; rintro e w11 ⟨rfl, hb11⟩; clear hs3)
    | (go_at_call 27; refine (HCl.out _ hb11).mono ?_; rintro e w12 ⟨gl, Wl, rfl, hSl, hWl, hb13⟩; have hs4 := Lib.hid (same_any gl Wl gr R bs w12 hSl (HP1.out.ref.below hb13) (HT2.out.below hb13)); clear HCl)
    | (go_at_call 19; refine hs4.out.mono ?_; rintro e w14 ⟨rfl, hl14⟩; clear hs4; have hb14 := hb13.trans (hl14.mono hb13.size); have hSm := hSl.below hl14)
    | (go_at_call 14; refine (HPu.out _ _ _ _ hSm).mono ?_; rintro e w15 ⟨b15, zs15, rfl, hSn, hg15⟩; have hb15 := hb14.grown hg15 hb14.size (by intro k hk; injection hk with hk; omega))
    | (go_at_call 28; refine (HCu.out _ _ _ _ hSn).mono ?_; rintro e w16 ⟨b16, zs16, rfl, hSp, hg16⟩; have hb16 := hb15.grown hg16 hb15.size (by intro k hk; injection hk with hk; omega); have hs5 := Lib.hid (HSame.out w16 g W gr R bs hb16 (HP1.out.set.below hb16) (HP1.out.ref.below hb16)))
    | (go_at_call 19; refine hs5.out.mono ?_; rintro e w17 ⟨rfl, hb17⟩; clear hs5; have hs6 := Lib.hid (HSame.out w17 g' W' gr' R' bs' hb17 (HP2.out.set.below hb17) (HP2.out.ref.below hb17)))
    | (go_at_call 19; refine hs6.out.mono ?_; rintro e w18 ⟨rfl, hb18⟩; clear hs6)
    | (go_at_call 15; refine (awake_any _ (HT2.out.below hb18)).mono ?_; rintro e w19 ⟨rfl, hl19⟩; have hb19 := hb18.trans (hl19.mono hb18.size)))
  go_ret
  exact ⟨rfl, hb2.trans (hb19.mono hb2.size)⟩
end Go.Proofs.YtopgikjmeebgbaaDoor
