/- A record with its length and its sum; the next epoch of a half. -/
import Derived.Test.YtjfpanamkkdebaaJnH
namespace Go.Proofs.Ytjfpanamkkdebaa
open Go.RowKit
set_option linter.unusedVariables false
set_option linter.unusedSimpArgs false
set_option maxHeartbeats 800000 in
/-- The library's Clone of a row of bytes, however long. -/
theorem bclone_wide (A : Option Addr) (c : Nat) (bs : List UInt8) (w : World) (hm : bs.length ≤ 140737488351232) (hA : A = none → c = 0) (hr : RB w A bs) :
    Calls Try.prog 40 #[.slice A bs.length c] w fun e w' => ∃ v, e = .returned v ∧ OB w' w.heap.size v bs ∧ Below w.heap.size w w' := by
  have kn := fun (l c l' c' : Nat) (w : World) => Lib.run_eql_slice_nil (P := Try.prog) w 29 5 A l c l' c' Try.underlying29
  have HML : Hid (maxLen = 9223372036854775807) := rfl
  cases A with
  | none =>
    have h0 : bs = [] := by
      cases bs with
      | nil => rfl
      | cons b bs => obtain ⟨a, ha, _⟩ := hr.at (k := 0) (by simp); cases ha
    subst h0
    go_enter Try.func40, Try.ntmps40
    go_wp2
    go_ret
    exact ⟨_, rfl, World.ownsRow_nil _ _ _ _, Below.refl _ _⟩
  | some a =>
    go_enter Try.func40, Try.ntmps40
    go_wp2_with (at_builtin; refine wpList_app _ rfl _ _ 29 rfl w.heap.size 5 _ 1 1 Try.underlying29 info_u8 rfl (by decide) _ 0 _ rfl (World.ownsRow_lit w _ 0 (Nat.le_refl _) (by decide) rfl) (some a) bs.length c (bs.map vb) rfl (by simp) (hr.below ((Below.refl _ _).alloc (Nat.le_refl _) _)) (vbs_one bs) hA ?c6 ?c7 ?c8 ?_)
    case c6 => rw [HML.out]; omega
    case c7 => omega
    case c8 => simp
    intro v w3 hown3 hg3 _
    go_wp2
    go_ret
    exact ⟨_, rfl, by simpa [OB] using hown3, ((Below.refl _ _).alloc (Nat.le_refl _) _).grown hg3 (by simp) (by intro k hk; cases hk; exact Nat.le_refl _)⟩
/-- A record's bytes on the pages. -/
def framedP (b : List UInt8) : List UInt8 := numBytes (sealed b).length ++ sealed b
theorem framedP_length (b : List UInt8) : (framedP b).length = need (b.length + 4) + b.length + 5 := by
  unfold framedP
  rw [List.length_append, numBytes_length, sealed_length, Nat.add_comm 4]
  omega
theorem framedP_le (b : List UInt8) (h : b.length ≤ 1073741824) : (framedP b).length ≤ b.length + 14 := by
  rw [framedP_length]
  have := need_le (b.length + 4)
  omega
set_option maxHeartbeats 1600000 in
theorem framed_any (A : Option Addr) (c : Nat) (b : List UInt8) (w : World) (hm : b.length ≤ 1073741824) (hA : A = none → c = 0) (hr : RB w A b) :
    Calls Try.prog 48 #[.slice A b.length c] w fun e w' => ∃ v, e = .returned v ∧ OB w' w.heap.size v (framedP b) ∧ Below w.heap.size w w' := by
  have HS := Lib.hid (seal_any A c b w (by omega) hA hr)
  have hsl := sealed_length b
  have hfl := framedP_le b hm
  have HF : Hid (framedP b = numBytes (sealed b).length ++ sealed b) := rfl
  generalize sealed b = S at *
  generalize framedP b = F at *
  have hnn : numNat (S.length : Int) = S.length := by unfold numNat; omega
  have HN := Lib.hid (fun W => num_any none 0 [] (S.length : Int) W (by simp) (by omega) (fun _ => rfl) (by simp) (Lies.nil _ _))
  rw [hnn] at HN
  have hfl2 : (numBytes S.length).length + S.length = F.length := by rw [HF.out, List.length_append]
  have HML : Hid (maxLen = 9223372036854775807) := rfl
  generalize numBytes S.length = M at *
  have HSL := Lib.hid hsl
  have hfs : M.length + S.length ≤ 2000000000 := by omega
  have HFL := Lib.hid hfl2
  clear hr hnn hsl hfl hfl2
  go_enter Try.func48, Try.ntmps48
  go_wp2_with fail
  refine HS.out.mono ?_
  rintro e w1 ⟨v, rfl, ho, hb⟩
  obtain ⟨A2, c2, rfl, hlc, hA2⟩ := OB.form ho
  have HO := Lib.hid ho
  have HB := Lib.hid hb
  clear ho hb
  go_wp2_with fail
  refine (HN.out _).mono ?_
  rintro e w2 ⟨v2, rfl, ho2, hb2⟩
  simp only [List.nil_append] at ho2
  have hO1 := HO.out.below hb2
  have HO2 := Lib.hid ho2
  have HB2 := Lib.hid hb2
  have HO1 := Lib.hid hO1
  clear ho2 hb2 hO1
  go_wp2_with (at_builtin; refine wpList_app _ rfl _ _ 29 rfl w1.heap.size 5 _ 1 1 Try.underlying29 info_u8 rfl (by decide) v2 M.length (M.map vb) rfl HO2.out A2 S.length c2 (S.map vb) rfl (by simp) (RB.of_own HO1.out) (vbs_one S) hA2 ?c6 ?c7 ?c8 ?_)
  case c6 => rw [HML.out]; omega
  case c7 => omega
  case c8 => exact HB2.out.size
  intro v w3 hown3 hg3 _
  go_wp2
  go_ret
  refine ⟨_, rfl, ?_, ((HB.out.trans (HB2.out.mono HB.out.size)).grown hg3 (Nat.le_trans HB.out.size HB2.out.size) (by intro k hk; exact Nat.le_trans HB.out.size (World.ownsRow.lt HO2.out k hk).1))⟩
  rw [HF.out]
  exact (OB.mk hown3 (by simp) (by simp)).mono HB.out.size
/-- The greatest epoch that pages have, or one that was given. -/
def Dsk.topE (d : Dsk) (hf : Nat) : Nat → Nat → Nat
  | 0, ep => ep
  | n + 1, ep => max (d.topE hf n ep) (d.sheet (d.place hf n : Nat)).epoch
def Dsk.nextE (d : Dsk) (hf ep : Nat) : Nat := if d.dead then 9 else if 2147483648 ≤ d.topE hf d.room ep then 11 else 0
theorem lookP_epoch (b : List UInt8) : (lookP b).epoch < 4294967296 := acc4 _ (by rw [List.length_take]; omega)
theorem Dsk.sheet_epoch (d : Dsk) (i : Int) : (d.sheet i).epoch < 4294967296 := by
  unfold Dsk.sheet
  split
  · exact lookP_epoch _
  · decide
theorem Dsk.topE_lt (d : Dsk) (hf ep : Nat) (h : ep < 4294967296) : ∀ n, d.topE hf n ep < 4294967296
  | 0 => h
  | n + 1 => by
    have h1 := d.topE_lt hf ep h n
    have h2 := d.sheet_epoch (d.place hf n : Nat)
    unfold Dsk.topE
    omega
theorem Dsk.place_lt (d : Dsk) (hf i : Nat) (h : 8 ≤ d.kept.length) (h1 : hf ≤ 1) (hi : i < d.room) : d.place hf i < d.kept.length := by
  unfold Dsk.place Dsk.room at *
  have : hf * ((d.kept.length - 2) / 2) ≤ 1 * ((d.kept.length - 2) / 2) := Nat.mul_le_mul_right _ h1
  omega
theorem Dsk.readE_in (d : Dsk) (i : Nat) (h : i < d.kept.length) : d.readE i = if d.dead then 9 else 0 := by
  have ha : d.askE i = 0 := by unfold Dsk.askE; exact if_pos (by omega)
  unfold Dsk.readE
  rw [ha, if_neg (by decide)]
set_option maxHeartbeats 3200000 in
theorem next_any (g k m c : Nat) (d : Dsk) (hf ep : Nat) (w : World) (h : DkAt w g k m c d) (hn : 8 ≤ d.kept.length) (h1 : hf ≤ 1) (hep : ep < 4294967296) :
    Calls Try.prog 62 #[.pointer (some ⟨g, 0, none⟩), .int .i64 hf, .int .i64 ep] w fun e w' =>
      e = .returned (.tuple #[.int .i64 (if d.nextE hf ep = 0 then d.topE hf d.room ep + 1 else 0 : Nat), .int .i64 (d.nextE hf ep)]) ∧ Below w.heap.size w w' := by
  have HR := Lib.hid (room_any g k m c d w h)
  have HA := Lib.hid (fun i (hi : i ≤ 65536) W (hb : Below w.heap.size w W) => at_any g k m c d hf i W (h.below hb) h1 hi)
  have HS := Lib.hid (fun (i : Int) W (hb : Below w.heap.size w W) => see_any g k m c d i W (h.below hb))
  have hrl := d.room_le h.ok.most
  have hr0 : 0 < d.room := by unfold Dsk.room; omega
  obtain ⟨T, hT⟩ : ∃ T : Nat → Nat, (fun n => d.topE hf n ep) = T := ⟨_, rfl⟩
  have hT0 : T 0 = ep := by rw [← hT]; rfl
  have hTs : ∀ n, T (n + 1) = max (T n) (d.sheet (d.place hf n : Nat)).epoch := by intro n; rw [← hT]; rfl
  have hTl : ∀ n, T n < 4294967296 := by intro n; rw [← hT]; exact d.topE_lt hf ep hep n
  have hNE : d.nextE hf ep = if d.dead then 9 else if 2147483648 ≤ T d.room then 11 else 0 := by rw [← hT]; rfl
  rw [show d.topE hf d.room ep = T d.room by rw [← hT]]
  have hRE : ∀ i, i < d.room → d.readE (d.place hf i : Nat) = if d.dead then 9 else 0 := fun i hi => d.readE_in _ (d.place_lt hf i hn h1 hi)
  have HTs := Lib.hid (⟨hT0, hTs, hTl, hRE⟩ : T 0 = ep ∧ (∀ n, T (n + 1) = max (T n) (d.sheet (d.place hf n : Nat)).epoch) ∧ (∀ n, T n < 4294967296) ∧ _)
  have HNE := Lib.hid hNE
  clear hT0 hTs hTl hT h hn hRE hNE
  obtain ⟨R, hR⟩ : ∃ R, d.room = R := ⟨_, rfl⟩
  rw [hR] at HR HTs HNE hrl hr0 ⊢
  clear hR
  generalize d.nextE hf ep = NE at *
  obtain ⟨X, hX⟩ : ∃ X : Nat, (if NE = 0 then T R + 1 else 0) = X := ⟨_, rfl⟩
  rw [hX]
  have HX := Lib.hid hX
  clear hX
  go_enter Try.func62, Try.ntmps62
  go_wp2_with (go_at_call 50; refine HR.out.mono ?_; rintro e w' ⟨rfl, rfl⟩)
  go_loopg [2, 13] R (fun r s2 s13 wr => ∃ j : Nat, j + r = R ∧ s13 = .int .i64 j ∧ s2 = .int .i64 (T j) ∧ Below w.heap.size w wr ∧ (0 < j → d.dead = false))
  case atStart => exact ⟨0, by omega, rfl, by rw [HTs.out.1], Below.refl _ _, fun h => by omega⟩
  case round =>
    obtain ⟨j, hj, rfl, rfl, hb, hdd⟩ := hrel
    by_cases hjl : j < R
    · have hj1 : decide ((j : Int) < (R : Int)) = true := decide_eq_true (by omega)
      have hj2 : (j : Int) < (R : Int) := by omega
      have HA1 := Lib.hid (HA.out j (by omega) wr hb)
      have HS1 := Lib.hid (HS.out (d.place hf j : Nat) wr hb)
      have hre := HTs.out.2.2.2 j hjl
      have hTs := HTs.out.2.1 j
      have hTl := HTs.out.2.2.1 j
      rw [hre] at HS1
      generalize d.place hf j = pl at *
      have hse := d.sheet_epoch pl
      obtain ⟨S, hS⟩ : ∃ S, d.sheet pl = S := ⟨_, rfl⟩
      rw [hS] at HS1 hTs hse
      clear hS hre
      obtain ⟨p1, p2, bs, wh, tl⟩ := S
      unfold shv at HS1
      dsimp only at HS1 hTs hse
      have HTT := Lib.hid hTs
      have HB := Lib.hid hb
      clear hTs hb HA HS
      cases hdead : d.dead with
      | true =>
        rw [hdead] at HNE HS1
        simp only [if_true] at HNE HS1
        have HNE2 := Lib.hid HNE.out
        clear HNE
        go_wp2_with (first
          | (go_at_call 61; refine HA1.out.mono ?_; rintro e w' ⟨rfl, rfl⟩)
          | (go_at_call 53; refine HS1.out.mono ?_; rintro e w' ⟨v, rfl, ho, hb⟩; obtain ⟨A2, c2, rfl, -⟩ := OB.form ho))
        go_returns
        have e9 : NE = 9 := HNE2.out
        have eX : X = 0 := by rw [← HX.out, e9]; rfl
        rw [e9, eX]
        exact ⟨rfl, (HB.out.trans (hb.mono HB.out.size)).alloc (Nat.le_trans HB.out.size hb.size) _⟩
      | false =>
        rw [hdead] at HS1
        simp only [Bool.false_eq_true, if_false] at HS1
        go_wp2_with (first
          | (go_at_call 61; refine HA1.out.mono ?_; rintro e w' ⟨rfl, rfl⟩)
          | (go_at_call 53; refine HS1.out.mono ?_; rintro e w' ⟨v, rfl, ho, hb⟩; obtain ⟨A2, c2, rfl, -⟩ := OB.form ho))
        go_roundg (R - (j + 1))
        case measure => omega
        case rel => exact ⟨j + 1, by omega, by go_num, by rw [HTT.out]; congr 1; omega, (HB.out.trans (hb.mono HB.out.size)).alloc (Nat.le_trans HB.out.size hb.size) _, fun _ => hdead⟩
    · obtain rfl : j = R := by omega
      have hj1 : decide ((j : Int) < (j : Int)) = false := decide_eq_false (by omega)
      have hdf := hdd hr0
      have hTl := HTs.out.2.2.1 j
      by_cases hbig : 2147483648 ≤ T j
      · have hb1 : decide ((T j : Int) ≥ 2147483648) = true := decide_eq_true (by omega)
        have hb2 : decide ((2147483648 : Int) ≤ (T j : Int)) = true := decide_eq_true (by omega)
        have HN2 := Lib.hid (show NE = 11 by rw [HNE.out, hdf, if_neg (by simp), if_pos hbig])
        clear HNE
        go_wp2_with fail
        go_returns
        have e9 : NE = 11 := HN2.out
        have eX : X = 0 := by rw [← HX.out, e9]; rfl
        rw [e9, eX]
        exact ⟨rfl, hb⟩
      · have hb1 : decide ((T j : Int) ≥ 2147483648) = false := decide_eq_false (by omega)
        have hb2 : decide ((2147483648 : Int) ≤ (T j : Int)) = false := decide_eq_false (by omega)
        have HN2 := Lib.hid (show NE = 0 by rw [HNE.out, hdf, if_neg (by simp), if_neg hbig])
        clear HNE
        go_wp2_with fail
        go_returns
        have e9 : NE = 0 := HN2.out
        have eX : X = T j + 1 := by rw [← HX.out, e9]; rfl
        rw [e9, eX]
        exact ⟨rfl, hb⟩
end Go.Proofs.Ytjfpanamkkdebaa
