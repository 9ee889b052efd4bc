/- The walk of the law of postings' bytes. -/
import Derived.Test.YtbeejmedekgjjaaPqE
import Derived.Test.YtbeejmedekgjjaaPqF
import Derived.Test.YtbeejmedekgjjaaPqH
import Derived.Test.YtbeejmedekgjjaaPqI
namespace Go.Proofs.Ytbeejmedekgjjaa
open Go.RowKit
set_option linter.unusedVariables false
set_option linter.unusedSimpArgs false
def encV (l : List Post) : List UInt8 := if chkB l then encB l else []
theorem encB_len {l : List Post} (h : chkB l = true) : (encB l).length ≤ 200000000 := by
  have h1 := (chkFrom_fits _ _ h).1
  have h2 := chkB_len h
  have h3 := (foldB_bounds h1 (starts ((l.length + 3) / 4))).2.2
  have h4 : (starts ((l.length + 3) / 4)).length = (l.length + 3) / 4 := by simp [starts]
  rw [h4] at h3
  show (foldB l (starts ((l.length + 3) / 4))).2.length ≤ _
  omega
theorem encV_len (l : List Post) : (encV l).length ≤ 200000000 := by
  unfold encV
  split
  next h => exact encB_len h
  · simp
theorem enc_gen (A : Option Addr) (c : Nat) (ls : List LPost) (w : World) (h : Posts w A c ls) :
    Calls Try.prog 8 #[.slice A ls.length c] w fun e w' => ∃ (A' : Option Addr) (c' : Nat), e = .returned (.tuple #[.slice A' (encV (ls.map LPost.p)).length c', .int .i64 (chkE (ls.map LPost.p))]) ∧ RB w' A' (encV (ls.map LPost.p)) ∧ (encV (ls.map LPost.p)).length ≤ c' ∧ (A' = none → c' = 0) ∧ Below w.heap.size w w' := by
  cases hk : chkB (ls.map LPost.p) with
  | false =>
    refine (encode_no A c ls w h hk).mono ?_
    rintro e w' ⟨rfl, hb⟩
    unfold encV chkE
    rw [hk]
    exact ⟨none, 0, rfl, Lies.nil _ _, Nat.le_refl _, fun _ => rfl, hb⟩
  | true =>
    refine (encode_ok A c ls w h hk).mono ?_
    rintro e w' ⟨v, rfl, hv, hb⟩
    unfold encV chkE
    rw [hk]
    obtain ⟨A', c', rfl, hc, hn⟩ := hv.form
    exact ⟨A', c', rfl, RB.of_own hv, hc, hn, hb⟩
theorem renc_gen (A : Option Addr) (c : Nat) (ls : List LPost) (w : World) (h : Posts w A c ls) (hn : ∀ p ∈ ls, p.spots.length ≤ 17592186044415) :
    Calls Try.prog 9 #[.slice A ls.length c] w fun e w' => ∃ (A' : Option Addr) (c' : Nat), e = .returned (.tuple #[.slice A' (encV (ls.map LPost.p)).length c', .int .i64 (chkE (ls.map LPost.p))]) ∧ RB w' A' (encV (ls.map LPost.p)) ∧ Below w.heap.size w w' := by
  cases hk : chkB (ls.map LPost.p) with
  | false =>
    refine (rencode_no A c ls w h hn hk).mono ?_
    rintro e w' ⟨rfl, hb⟩
    unfold encV chkE
    rw [hk]
    exact ⟨none, 0, rfl, Lies.nil _ _, hb⟩
  | true =>
    refine (rencode_ok A c ls w h hn hk).mono ?_
    rintro e w' ⟨v, rfl, hv, hb⟩
    unfold encV chkE
    rw [hk]
    obtain ⟨A', c', rfl, hc, hn⟩ := hv.form
    exact ⟨A', c', rfl, RB.of_own hv, hb⟩
def decE (o : Option (List Post)) : Int := if o.isSome then 0 else 3
theorem posts_nil (w : World) : Posts w none 0 [] := ⟨Lies.nil _ _, by simp, Nat.le_refl _, Nat.zero_le _⟩
theorem dec_gen (A : Option Addr) (c : Nat) (bs : List UInt8) (w : World) (hm : bs.length ≤ 140737488355300) (hA : A = none → c = 0) (hr : RB w A bs) :
    Calls Try.prog 10 #[.slice A bs.length c] w fun e w' => ∃ (A' : Option Addr) (c' : Nat) (ls : List LPost), e = .returned (.tuple #[.slice A' ls.length c', .int .i64 (decE (decP bs))]) ∧ Posts w' A' c' ls ∧ ls.map LPost.p = (decP bs).getD [] ∧ Below w.heap.size w w' := by
  refine (decode_any A c bs w hm hA hr).mono ?_
  rintro e w' ⟨hb, h0, h1⟩
  cases hd : decP bs with
  | none => exact ⟨none, 0, [], h0 hd, posts_nil _, rfl, hb⟩
  | some l =>
    obtain ⟨A', c', ls, he, hp, hl⟩ := h1 l hd
    exact ⟨A', c', ls, he, hp, hl, hb⟩
theorem rdec_gen (A : Option Addr) (c : Nat) (bs : List UInt8) (w : World) (hm : bs.length ≤ 140737488355300) (hA : A = none → c = 0) (hr : RB w A bs) :
    Calls Try.prog 11 #[.slice A bs.length c] w fun e w' => ∃ (A' : Option Addr) (c' : Nat) (ls : List LPost), e = .returned (.tuple #[.slice A' ls.length c', .int .i64 (decE (decP bs))]) ∧ Posts w' A' c' ls ∧ ls.map LPost.p = (decP bs).getD [] ∧ Below w.heap.size w w' := by
  refine (rdecode_any A c bs w hm hA hr).mono ?_
  rintro e w' ⟨hb, h0, h1⟩
  rw [dec_same hm]
  cases hd : refDec bs with
  | none => exact ⟨none, 0, [], h0 hd, posts_nil _, rfl, hb⟩
  | some l =>
    obtain ⟨A', c', ls, he, hp, hl⟩ := h1 l hd
    exact ⟨A', c', ls, he, hp, hl, hb⟩
set_option maxHeartbeats 3200000 in
theorem postingCodes_walk (A : Option Addr) (c : Nat) (ls : List LPost) (B : Option Addr) (d : Nat) (bs : List UInt8) (w : World) (h : Posts w A c ls) (hn : ∀ p ∈ ls, p.spots.length ≤ 4398046511103)
    (hr : RB w B bs) (hB : B = none → d = 0) (hld : bs.length ≤ d) (hm : bs.length ≤ 140737488351232) :
    Calls Try.prog 3 #[.slice A ls.length c, .slice B bs.length d] w fun e w' => e = .returned (.bool true) ∧ Below w.heap.size w w' := by
  have HP := Lib.hid h
  have HR := Lib.hid hr
  have HF := Lib.hid (few_any A c ls w h)
  have HAw := Lib.hid (fun w' => pawake_any w')
  have HN := Lib.hid (show ∀ p ∈ ls, p.spots.length ≤ 17592186044415 from fun p hp => by have := hn p hp; omega)
  clear h hr hn
  go_enter Try.func3, Try.ntmps3
  go_wp2_with fail
  refine HF.out.mono ?_
  rintro e1 w1 ⟨⟨b, rfl⟩, rfl⟩
  clear HF
  by_cases hq : b = true ∧ bs.length ≤ 4096
  · obtain ⟨rfl, hbl⟩ := hq
    have q1 : decide ((bs.length : Int) > 4096) = false := decide_eq_false (by omega)
    have q2 : decide ((4096 : Int) < (bs.length : Int)) = false := decide_eq_false (by omega)
    have q3 : ¬ 4096 < bs.length := by omega
    go_wp2_with (first
      | (go_at_call 8; refine (enc_gen A c ls w HP.out).mono ?_; rintro e2 w2 ⟨A2, c2, rfl, hr2, hc2, hn2, hb2⟩)
      | (go_at_call 9; refine (renc_gen A c ls w2 (HP.out.below hb2) HN.out).mono ?_; rintro e3 w3 ⟨A3, c3, rfl, hr3, hb3⟩
         have hb03 := hb2.trans (hb3.mono hb2.size))
      | (go_at_call 10; refine (dec_gen B d bs w3 (by omega) hB (HR.out.below hb03)).mono ?_; rintro e4 w4 ⟨A4, c4, l4, rfl, hp4, hl4, hb4⟩
         have hb04 := hb03.trans (hb4.mono hb03.size))
      | (go_at_call 11; refine (rdec_gen B d bs w4 (by omega) hB (HR.out.below hb04)).mono ?_; rintro e5 w5 ⟨A5, c5, l5, rfl, hp5, hl5, hb5⟩
         have hb05 := hb04.trans (hb5.mono hb04.size)))
    have r2 := hr2.below (hb3.trans ((hb4.mono hb3.size).trans (hb5.mono (Nat.le_trans hb3.size hb4.size))))
    have r3 := hr3.below (hb4.trans (hb5.mono hb4.size))
    have HQ := equal_any A2 A3 c2 c3 _ _ w5 r2 r3
    rw [beq_self_eq_true] at HQ
    have HQ := Lib.hid HQ
    have HC1 := Lib.hid (check_any A c ls w5 (HP.out.below hb05))
    have HC2 := Lib.hid (fun w' (hb : Below w.heap.size w w') => rcheck_any A c ls w' (HP.out.below hb) HN.out)
    have p4 := hp4.below hb5
    have HSm := Lib.hid (fun w' (hb : Below w5.heap.size w5 w') => samelist_any A4 A5 c4 c5 l4 l5 w' (p4.below hb) (hp5.below hb) (by rw [hl4, hl5]))
    clear r2 r3 p4 hp4 hp5 hl4 hl5 hr2 hr3
    generalize (encV (ls.map LPost.p)).length = en at *
    generalize chkE (ls.map LPost.p) = ce at *
    generalize decE (decP bs) = de at *
    have q4 : (ce == ce) = true := beq_self_eq_true _
    have q5 : (de == de) = true := beq_self_eq_true _
    refine HQ.out.mono ?_
    rintro e6 w6 ⟨rfl, rfl⟩
    go_wp2_with (first
      | (go_at_call 13; refine HC1.out.mono ?_; rintro e7 w7 ⟨rfl, hb7⟩
         have hb07 := hb05.trans (hb7.mono hb05.size))
      | (go_at_call 14; refine (HC2.out _ hb07).mono ?_; rintro e8 w8 ⟨rfl, hb8⟩
         have hb58 := hb7.trans (hb8.mono hb7.size)
         have hb08 := hb07.trans (hb8.mono hb07.size))
      | (go_at_call 15; refine (HSm.out _ hb58).mono ?_; rintro e9 w9 ⟨rfl, hb9⟩
         have hb09 := hb08.trans (hb9.mono hb08.size))
      | (go_at_call 7; refine (HAw.out _).mono ?_; rintro ea wa ⟨rfl, hba⟩))
    go_returns
    exact ⟨rfl, hb09.trans (hba.mono hb09.size)⟩
  · cases b with
    | false =>
      go_wp2_with (go_at_call 7; refine (HAw.out _).mono ?_; rintro ea wa ⟨rfl, hba⟩)
      go_returns
      exact ⟨rfl, hba⟩
    | true =>
      have hbl : 4096 < bs.length := by
        by_cases hl : bs.length ≤ 4096
        · exact absurd ⟨rfl, hl⟩ hq
        · omega
      have q1 : decide ((bs.length : Int) > 4096) = true := decide_eq_true (by omega)
      have q2 : decide ((4096 : Int) < (bs.length : Int)) = true := decide_eq_true (by omega)
      clear hq
      go_wp2_with (go_at_call 7; refine (HAw.out _).mono ?_; rintro ea wa ⟨rfl, hba⟩)
      go_returns
      exact ⟨rfl, hba⟩
end Go.Proofs.Ytbeejmedekgjjaa
