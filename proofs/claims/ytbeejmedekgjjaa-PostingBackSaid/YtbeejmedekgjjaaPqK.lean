/- The walk of the law of postings that are read as they were written. -/
import Derived.Test.YtbeejmedekgjjaaPqL
import Derived.Test.YtbeejmedekgjjaaPqF
import Derived.Test.YtbeejmedekgjjaaPqH
import Derived.Test.YtbeejmedekgjjaaPqI
namespace Go.Proofs.Ytbeejmedekgjjaa
open Go.RowKit
set_option linter.unusedVariables false
set_option linter.unusedSimpArgs false
set_option maxHeartbeats 6400000 in
theorem postingBack_walk (A : Option Addr) (c : Nat) (ls : List LPost) (B : Option Addr) (d : Nat) (bs : List UInt8) (w : World) (h : Posts w A c ls) (hn : ∀ p ∈ ls, p.spots.length ≤ 4398046511103)
    (hr : RB w B bs) (hB : B = none → d = 0) (hld : bs.length ≤ d) (hm : bs.length ≤ 140737488351232) :
    Calls Try.prog 4 #[.slice A ls.length c, .slice B bs.length d] w fun e w' => e = .returned (.bool true) ∧ Below w.heap.size w w' := by
  have HP := Lib.hid h
  have HR := Lib.hid hr
  have HF := Lib.hid (few_any A c ls w h)
  have HAw := Lib.hid (fun w' => pawake_any w')
  clear h hr hn
  go_enter Try.func4, Try.ntmps4
  go_wp2_with fail
  refine HF.out.mono ?_
  rintro e1 w1 ⟨⟨b, rfl⟩, rfl⟩
  clear HF
  by_cases hq : b = true ∧ bs.length ≤ 4096
  · obtain ⟨rfl, hbl⟩ := hq
    have q1 : decide ((bs.length : Int) > 4096) = false := decide_eq_false (by omega)
    have q2 : decide ((4096 : Int) < (bs.length : Int)) = false := decide_eq_false (by omega)
    have q3 : ¬ 4096 < bs.length := by omega
    go_wp2_with fail
    refine (enc_gen A c ls w HP.out).mono ?_
    rintro e2 w2 ⟨A2, c2, rfl, hr2, hc2, hn2, hb2⟩
    have hlen := encV_len (ls.map LPost.p)
    cases hk : chkB (ls.map LPost.p) with
    | false =>
      rw [chkE_no hk]
      generalize (encV (ls.map LPost.p)).length = en at *
      have HB0 := Lib.hid hb2
      clear hr2 hc2 hn2 hk
      go_wp2_with fail
      refine (dec_gen B d bs w2 (by omega) hB (HR.out.below hb2)).mono ?_
      rintro e4 w4 ⟨A4, c4, l4, rfl, hp4, hl4, hb4⟩
      have hb04 := hb2.trans (hb4.mono hb2.size)
      cases hd : decP bs with
      | none =>
        rw [hd] at hl4
        have h40 : l4.length = 0 := by have := congrArg List.length hl4; simpa using this
        rw [h40, show decE none = 3 from rfl]
        clear hp4 hl4 hd h40
        go_wp2_with (go_at_call 7; refine (HAw.out _).mono ?_; rintro ea wa ⟨rfl, hba⟩)
        go_returns
        exact ⟨rfl, hb04.trans (hba.mono hb04.size)⟩
      | some l =>
        rw [hd] at hl4
        have hl4 : l4.map LPost.p = l := hl4
        obtain ⟨k1, k2⟩ := (decP_iff (by omega)).1 hd
        have hev4 : encV (l4.map LPost.p) = bs := by unfold encV; rw [hl4, k1, ← k2]; rfl
        have HE4 := enc_gen A4 c4 l4 w4 hp4
        rw [hev4, hl4, chkE_ok k1] at HE4
        have HE4 := Lib.hid HE4
        rw [show decE (some l) = 0 from rfl]
        clear hd k1 k2 hev4 hl4 hp4
        go_wp2_with fail
        refine HE4.out.mono ?_
        rintro e6 w6 ⟨A6, c6, rfl, hr6, hc6, hn6, hb6⟩
        have hb06 := hb04.trans (hb6.mono hb04.size)
        have HQ := equal_any A6 B c6 d bs bs w6 hr6 (HR.out.below hb06)
        rw [beq_self_eq_true] at HQ
        have HQ := Lib.hid HQ
        clear HE4 hr6
        go_wp2_with (first
          | (go_at_call 12; refine HQ.out.mono ?_; rintro e7 w7 ⟨rfl, rfl⟩)
          | (go_at_call 7; refine (HAw.out _).mono ?_; rintro ea wa ⟨rfl, hba⟩))
        go_returns
        exact ⟨rfl, hb06.trans (hba.mono hb06.size)⟩
    | true =>
      rw [chkE_ok hk]
      have hev : encV (ls.map LPost.p) = encB (ls.map LPost.p) := by unfold encV; rw [hk]; rfl
      have hdx : decP (encV (ls.map LPost.p)) = some (ls.map LPost.p) := (decP_iff (by omega)).2 ⟨hk, hev.symm⟩
      have HDx := Lib.hid (dec_gen A2 c2 (encV (ls.map LPost.p)) w2 (by omega) hn2 hr2)
      rw [hdx] at HDx
      generalize (encV (ls.map LPost.p)).length = en at *
      clear hev hdx hk hr2
      go_wp2_with fail
      refine HDx.out.mono ?_
      rintro e3 w3 ⟨A3, c3, l3, rfl, hp3, hl3, hb3⟩
      have hb03 := hb2.trans (hb3.mono hb2.size)
      have HSm := Lib.hid (samelist_any A3 A c3 c l3 ls w3 hp3 (HP.out.below hb03) hl3)
      rw [show decE (some (ls.map LPost.p)) = 0 from rfl]
      clear HDx hp3 hl3
      go_wp2_with fail
      refine HSm.out.mono ?_
      rintro e5 w5 ⟨rfl, hb5⟩
      have hb05 := hb03.trans (hb5.mono hb03.size)
      clear HSm
      go_wp2_with fail
      refine (dec_gen B d bs w5 (by omega) hB (HR.out.below hb05)).mono ?_
      rintro e4 w4 ⟨A4, c4, l4, rfl, hp4, hl4, hb4⟩
      have hb04 := hb05.trans (hb4.mono hb05.size)
      cases hd : decP bs with
      | none =>
        rw [hd] at hl4
        have h40 : l4.length = 0 := by have := congrArg List.length hl4; simpa using this
        rw [h40, show decE none = 3 from rfl]
        clear hp4 hl4 hd h40
        go_wp2_with (go_at_call 7; refine (HAw.out _).mono ?_; rintro ea wa ⟨rfl, hba⟩)
        go_returns
        exact ⟨rfl, hb04.trans (hba.mono hb04.size)⟩
      | some l =>
        rw [hd] at hl4
        have hl4 : l4.map LPost.p = l := hl4
        obtain ⟨k1, k2⟩ := (decP_iff (by omega)).1 hd
        have hev4 : encV (l4.map LPost.p) = bs := by unfold encV; rw [hl4, k1, ← k2]; rfl
        have HE4 := enc_gen A4 c4 l4 w4 hp4
        rw [hev4, hl4, chkE_ok k1] at HE4
        have HE4 := Lib.hid HE4
        rw [show decE (some l) = 0 from rfl]
        clear hd k1 k2 hev4 hl4 hp4
        go_wp2_with fail
        refine HE4.out.mono ?_
        rintro e6 w6 ⟨A6, c6, rfl, hr6, hc6, hn6, hb6⟩
        have hb06 := hb04.trans (hb6.mono hb04.size)
        have HQ := equal_any A6 B c6 d bs bs w6 hr6 (HR.out.below hb06)
        rw [beq_self_eq_true] at HQ
        have HQ := Lib.hid HQ
        clear HE4 hr6
        go_wp2_with (first
          | (go_at_call 12; refine HQ.out.mono ?_; rintro e7 w7 ⟨rfl, rfl⟩)
          | (go_at_call 7; refine (HAw.out _).mono ?_; rintro ea wa ⟨rfl, hba⟩))
        go_returns
        exact ⟨rfl, hb06.trans (hba.mono hb06.size)⟩
  · cases b with
    | false =>
      go_wp2_with (go_at_call 7; refine (HAw.out _).mono ?_; rintro ea wa ⟨rfl, hba⟩)
      go_returns
      exact ⟨rfl, hba⟩
    | true =>
      have hbl : 4096 < bs.length := by
        by_cases hl : bs.length ≤ 4096
        · exact absurd ⟨rfl, hl⟩ hq
        · omega
      have q1 : decide ((bs.length : Int) > 4096) = true := decide_eq_true (by omega)
      have q2 : decide ((4096 : Int) < (bs.length : Int)) = true := decide_eq_true (by omega)
      clear hq
      go_wp2_with (go_at_call 7; refine (HAw.out _).mono ?_; rintro ea wa ⟨rfl, hba⟩)
      go_returns
      exact ⟨rfl, hba⟩
end Go.Proofs.Ytbeejmedekgjjaa
