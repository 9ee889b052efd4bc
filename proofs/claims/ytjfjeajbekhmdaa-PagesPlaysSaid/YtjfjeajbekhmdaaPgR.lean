/- The document's Write: the walk. -/
import Derived.Test.YtjfjeajbekhmdaaPgQ
namespace Go.Proofs.Ytjfjeajbekhmdaa
open Go.RowKit Go.Maps
set_option linter.unusedVariables false
set_option linter.unusedSimpArgs false
theorem set_range {α : Type} (n : Nat) (f f' : Nat → α) (i : Nat) (v : α) (h1 : f' i = v) (h2 : ∀ j, j ≠ i → f' j = f j) : (List.range n).map f' = ((List.range n).map f).set i v := by
  refine List.ext_getElem (by simp) fun j k1 k2 => ?_
  by_cases e : i = j
  · subst e
    rw [List.getElem_set_self]
    simpa using h1
  · rw [List.getElem_set_ne e]
    simpa using h2 j (fun e2 => e e2.symm)
theorem wrote_is {d : Dsk} {j : Nat} {bs : List UInt8} (ha : d.askE j = 0) (hb : bs.length ≤ 128) (hs : d.stops = false) :
    d.wrote j bs = { d.acted with loose := fun k => if k = j then some (pad bs) else d.loose k } := by
  unfold Dsk.wrote
  rw [ha, if_neg (by decide), if_neg (by omega), hs]
  rfl
theorem wrote_nows {d : Dsk} {j : Nat} {bs : List UInt8} (ha : d.askE j = 0) (hb : bs.length ≤ 128) (hs : d.stops = false) : (d.wrote j bs).nows = d.nows.set j (pad bs) := by
  rw [wrote_is ha hb hs]
  show (List.range d.acted.kept.length).map (fun i => pad (match (if i = j then some (pad bs) else d.loose i) with | some s => s | none => d.acted.kept.getD i [])) = _
  rw [d.acted_kept]
  unfold Dsk.nows Dsk.now
  refine set_range _ _ _ _ _ ?_ ?_
  · simp only [if_true]; exact pad_pad hb
  · intro k hk; simp only [if_neg hk]; rfl
theorem wrote_iss {d : Dsk} {j : Nat} {bs : List UInt8} (ha : d.askE j = 0) (hb : bs.length ≤ 128) (hs : d.stops = false) : (d.wrote j bs).iss = d.iss.set j true := by
  rw [wrote_is ha hb hs]
  show (List.range d.acted.kept.length).map (fun i => (if i = j then some (pad bs) else d.loose i).isSome) = _
  rw [d.acted_kept]
  unfold Dsk.iss
  refine set_range _ _ _ _ _ ?_ ?_
  · simp
  · intro k hk; simp only [if_neg hk]
theorem wrote_hads {d : Dsk} {j : Nat} {bs : List UInt8} (ha : d.askE j = 0) (hb : bs.length ≤ 128) (hs : d.stops = false) : (d.wrote j bs).hads = d.hads := by
  rw [wrote_is ha hb hs]
  exact acted_hads d
theorem acted_at {w : World} {g a b c x y z : Nat} {d : Dsk} {n : Nat} (hn : n = d.kept.length) (h : Rf w g a b c x y z n d.nows d.hads d.iss d.acted.leftI d.acted.dead) : RfAt w g a b c x y z d.acted := by
  subst hn
  unfold RfAt
  rw [acted_nows, acted_hads, acted_iss, d.acted_kept]
  exact h
set_option maxHeartbeats 3200000 in
theorem rwrite_any (g a b c x y z : Nat) (d : Dsk) (i : Int) (A : Option Addr) (cc : Nat) (bs : List UInt8) (w : World) (h : RfAt w g a b c x y z d) (hk : d.Ok) (hr : RB w A bs) (hAg : ∀ p, A = some p → bs ≠ [] → p.block ≠ g) (hm : bs.length ≤ 9223372036854775807) :
    Calls Try.prog 29 #[.pointer (some ⟨g, 0, none⟩), .int .i64 i, .slice A bs.length cc] w fun e w' => e = .returned (.int .i64 (d.writeE i bs)) ∧ RfAt w' g a b c x y z (d.wrote i bs) ∧ Only w w' [g, a, c] := by
  have k0 := h.c0
  have hmost := hk.most
  by_cases ha : d.askE i = 0
  · obtain ⟨hi0, hi1⟩ := askE_zero ha
    obtain ⟨j, rfl⟩ : ∃ j : Nat, i = (j : Int) := ⟨i.toNat, by omega⟩
    have hj : j < d.kept.length := by omega
    have hq1 : decide ((j : Int) < 0) = false := decide_eq_false (by omega)
    have hq2 : decide ((j : Int) ≥ (d.kept.length : Int)) = false := decide_eq_false (by omega)
    have hq3 : decide ((d.kept.length : Int) ≤ (j : Int)) = false := decide_eq_false (by omega)
    have hq4 : decide (d.kept.length ≤ j) = false := decide_eq_false (by omega)
    by_cases hb : 128 < bs.length
    · have hb1 : decide ((bs.length : Int) > 128) = true := decide_eq_true (by omega)
      have hb2 : decide (128 < bs.length) = true := decide_eq_true hb
      have hE : d.writeE j bs = 1 := by unfold Dsk.writeE; rw [ha, if_neg (by decide), if_pos hb]
      have hW : d.wrote j bs = d := by unfold Dsk.wrote; rw [ha, if_neg (by decide), if_pos hb]
      rw [hE, hW]
      have HD := Lib.hid h
      clear h hE hW ha hr
      go_enter Try.func29, Try.ntmps29
      go_wp2
      go_returns
      exact ⟨rfl, HD.out, Only.refl _ _⟩
    · have hb1 : decide ((bs.length : Int) > 128) = false := decide_eq_false (by omega)
      have hb2 : decide (128 < bs.length) = false := decide_eq_false hb
      have HAc := Lib.hid (ract_any g a b c x y z d.kept.length d.nows d.hads d.iss d w h hk.left)
      have hE : d.writeE j bs = d.actE := by unfold Dsk.writeE; rw [ha, if_neg (by decide), if_neg hb]
      rw [hE]
      by_cases hst : d.actE = 0
      · have hs := stops_of hst
        rw [hst] at HAc ⊢
        unfold RfAt
        rw [wrote_nows ha (by omega) hs, wrote_iss ha (by omega) hs, wrote_hads ha (by omega) hs]
        have hwi := wrote_is ha (show bs.length ≤ 128 by omega) hs
        have e1 : (d.wrote j bs).leftI = d.acted.leftI := by rw [hwi]; rfl
        have e2 : (d.wrote j bs).dead = d.acted.dead := by rw [hwi]
        have e3 : (d.wrote j bs).kept.length = d.kept.length := by rw [hwi]; exact congrArg List.length d.acted_kept
        rw [e1, e2, e3]
        generalize d.acted.leftI = lf at HAc ⊢
        generalize d.acted.dead = de at HAc ⊢
        have HR := Lib.hid hr
        have hnl := h.nl
        have hil := h.il
        generalize d.nows = N at HAc hnl ⊢
        generalize d.hads = H at HAc ⊢
        generalize d.iss = I at HAc hil ⊢
        have hbl : bs.length ≤ 128 := by omega
        clear h hE hwi e1 e2 e3 hst ha hs hr hk
        generalize d.kept.length = n at *
        go_enter Try.func29, Try.ntmps29
        go_wp2_with (go_at_call 35; refine HAc.out.mono ?_; rintro e w1 ⟨rfl, hd1, ho1⟩)
        have hr1 : RB w1 A bs := by
          intro j v hj
          obtain ⟨p, hp, hc⟩ := HR.out j v hj
          exact ⟨p, hp, ho1.grown.cell hc (fun e => by injection e with e; refine hAg p hp (fun e0 => by rw [e0] at hj; simp at hj) ?_; rw [← e]; unfold Addr.add; split <;> rfl)⟩
        have HPg := Lib.hid (page_any A cc bs w1.drew hr1.drew hbl)
        have kk0 := hd1.c0
        have kk2 := hd1.c2
        have hkc := World.ownsRow.cellAt hd1.rn j (by omega)
        rw [List.getElem?_map, List.getElem?_eq_getElem (by omega)] at hkc
        have hkf := World.ownsRow.frozenAt hd1.rn j
        have hgc := hd1.gc
        have hga := hd1.ga
        have hac := hd1.ac
        obtain ⟨W2, hW2⟩ : ∃ W2, W2 = (w1.setCell ⟨a, j, none⟩ (.string (str (pad bs)))).drew := ⟨_, rfl⟩
        have hs2 := hd1.setN j (pad bs)
        have hd2 := hs2.1.below (Below.refl _ _).drew
        have ho2 := (ho1.mono (T := [g, a, c]) (fun i h => by simp at h; simp [h])).trans ((hs2.2.alike (Below.refl _ _).drew).mono (T := [g, a, c]) (fun i h => by simp at h; simp [h]))
        rw [← hW2] at hd2 ho2
        have mm2 := hd2.c2
        have mmc := World.ownsRow.cellAt hd2.ri j (by omega)
        rw [List.getElem?_map, List.getElem?_eq_getElem (by omega)] at mmc
        have mmf := World.ownsRow.frozenAt hd2.ri j
        have hs3 := Lib.hid (hd2.setI j true)
        have ho3 := Lib.hid ho2
        have hW3 := Lib.hid hW2
        generalize I[j]'(by omega) = oldI at mmc
        simp only [Option.map_some] at mmc
        clear hs2 hd2 ho2 hW2
        generalize N[j]'(by omega) = old at hkc
        simp only [Option.map_some] at hkc
        unfold vs at hkc
        clear hd1 ho1 hr1 HR HAc
        go_region_law (go_simp; go_at_call 14; refine HPg.out.mono ?_; rintro e w2 ⟨rfl, rfl⟩)
        all_goals rw [← hW3.out]
        all_goals go_wp2
        all_goals go_returns
        all_goals exact ⟨rfl, hs3.out.1, ho3.out.trans (hs3.out.2.mono (fun i h => by simp at h; simp [h]))⟩
      · obtain ⟨h1, h9⟩ := stops_if hst
        have hW : d.wrote j bs = d.acted := by unfold Dsk.wrote; rw [ha, if_neg (by decide), if_neg hb, h1]; rfl
        rw [h9] at HAc ⊢
        rw [hW]
        have HX := Lib.hid (fun w' => @acted_at w' g a b c x y z d _ rfl)
        clear h hE hW ha hr hst h1 h9
        generalize d.acted = d2 at HAc HX ⊢
        go_enter Try.func29, Try.ntmps29
        go_wp2_with (go_at_call 35; refine HAc.out.mono ?_; rintro e w1 ⟨rfl, hd1, ho1⟩)
        go_returns
        exact ⟨rfl, HX.out _ hd1, ho1.mono (fun i h => by simp at h; simp [h])⟩
  · have hE : d.writeE i bs = 1 := by unfold Dsk.writeE; rw [if_pos ha]
    have hW : d.wrote i bs = d := by unfold Dsk.wrote; rw [if_pos ha]
    have hno : ¬ (0 ≤ i ∧ i < d.kept.length) := fun hh => ha (by unfold Dsk.askE; rw [if_pos hh])
    rw [hE, hW]
    have HD := Lib.hid h
    clear h hE hW ha hr
    by_cases h1 : i < 0
    · have hq1 : decide (i < 0) = true := decide_eq_true h1
      go_enter Try.func29, Try.ntmps29
      go_wp2
      go_returns
      exact ⟨rfl, HD.out, Only.refl _ _⟩
    · have hq1 : decide (i < 0) = false := decide_eq_false h1
      have hq2 : decide (i ≥ (d.kept.length : Int)) = true := decide_eq_true (by omega)
      have hq3 : decide ((d.kept.length : Int) ≤ i) = true := decide_eq_true (by omega)
      clear hno
      go_enter Try.func29, Try.ntmps29
      go_wp2
      go_returns
      exact ⟨rfl, HD.out, Only.refl _ _⟩
end Go.Proofs.Ytjfjeajbekhmdaa
