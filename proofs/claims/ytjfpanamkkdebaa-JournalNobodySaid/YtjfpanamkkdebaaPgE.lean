/- Reading and writing a page: the walks. -/
import Derived.Test.YtjfpanamkkdebaaPgD
namespace Go.Proofs.Ytjfpanamkkdebaa
open Go.RowKit
set_option linter.unusedVariables false
set_option maxRecDepth 100000
set_option linter.unusedSimpArgs false
theorem askE_zero {d : Dsk} {i : Int} (h : d.askE i = 0) : 0 ≤ i ∧ i < d.kept.length := by
  unfold Dsk.askE at h
  split at h
  · assumption
  · cases h
theorem askE_one {d : Dsk} {i : Int} (h : d.askE i ≠ 0) : d.askE i = 1 := by
  unfold Dsk.askE at h ⊢
  split at h
  · exact absurd rfl h
  · rename_i hn; rw [if_neg hn]
theorem stops_of {d : Dsk} (h : d.actE = 0) : d.stops = false := by
  unfold Dsk.actE at h
  split at h
  · cases h
  · rename_i hn; exact Bool.eq_false_iff.2 hn
theorem stops_if {d : Dsk} (h : d.actE ≠ 0) : d.stops = true ∧ d.actE = 9 := by
  unfold Dsk.actE at h ⊢
  split at h
  · rename_i hn; exact ⟨hn, by rw [if_pos hn]⟩
  · exact absurd rfl h
/-- A device whose map alone has turned. -/
theorem DkAt.wrote {w w' : World} {g k m c : Nat} {d : Dsk} (h : DkAt w g k m c d) {i : Nat} (hi : i < d.kept.length) {s : List UInt8} (hs : s.length = 128)
    (hM : MapIs w' m d.kept.length (fun j => if j = i then some s else d.loose j)) (hg : w.grownBy w' (some m)) :
    DkAt w' g k m c { d with loose := fun j => if j = i then some s else d.loose j } := by
  obtain ⟨l1, l2, l3⟩ := h.lt
  refine ⟨(hg.block g l1 (fun e => by injection e with e; exact h.gm e)).trans h.blk, own_block h.row (hg.block k l2 (fun e => by injection e with e; exact h.km e)), hM, ⟨h.ok.pos, h.ok.most, h.ok.kept, fun j t hj => ?_, h.ok.left⟩, h.gk, h.gm, h.km⟩
  simp only at hj
  split at hj
  · rename_i e
    injection hj with hj
    exact ⟨by rw [e]; exact hi, by rw [← hj]; exact hs⟩
  · exact h.ok.loose j t hj
set_option maxHeartbeats 1600000 in
theorem write_any (g k m c : Nat) (d : Dsk) (i : Int) (A : Option Addr) (cc : Nat) (bs : List UInt8) (w : World) (h : DkAt w g k m c d) (hr : RB w A bs) (hAg : ∀ a, A = some a → bs ≠ [] → a.block ≠ g) (hm : bs.length ≤ 9223372036854775807) :
    Calls Try.prog 10 #[.pointer (some ⟨g, 0, none⟩), .int .i64 i, .slice A bs.length cc] w fun e w' => e = .returned (.int .i64 (d.writeE i bs)) ∧ DkAt w' g k m c (d.wrote i bs) ∧ Only w w' [g, m] := by
  have HK := Lib.hid (ask_any g k m c d i w h)
  have HAc := Lib.hid (act_any g k m c d w h)
  by_cases ha : d.askE i = 0
  · rw [ha] at HK
    obtain ⟨hi0, hi1⟩ := askE_zero ha
    obtain ⟨x, rfl⟩ : ∃ x : Nat, i = (x : Int) := ⟨i.toNat, by omega⟩
    have hx : x < d.kept.length := by omega
    by_cases hb : 128 < bs.length
    · have hq : (bs.length : Int) > 128 := by omega
      have hE : d.writeE x bs = 1 := by unfold Dsk.writeE; rw [ha, if_neg (by decide), if_pos hb]
      have hW : d.wrote x bs = d := by unfold Dsk.wrote; rw [ha, if_neg (by decide), if_pos hb]
      rw [hE, hW]
      have HD := Lib.hid h
      clear h hE hW ha hr
      go_enter Try.func10, Try.ntmps10
      go_wp2_with (go_at_call 32; refine HK.out.mono ?_; rintro e w' ⟨rfl, rfl⟩)
      go_returns
      exact ⟨rfl, HD.out, Only.refl _ _⟩
    · have hq : ¬ ((bs.length : Int) > 128) := by omega
      have hmost := h.ok.most
      have hn := d.acted_kept
      have hlo := d.acted_loose
      have hE : d.writeE x bs = d.actE := by unfold Dsk.writeE; rw [ha, if_neg (by decide), if_neg hb]
      have hW : d.wrote x bs = if d.stops then d.acted else { d.acted with loose := fun j => if j = (x : Int).toNat then some (pad bs) else d.loose j } := by unfold Dsk.wrote; rw [ha, if_neg (by decide), if_neg hb]
      rw [Int.toNat_natCast, ← hlo] at hW
      rw [hE, hW]
      obtain ⟨l1, l2, l3⟩ := h.lt
      by_cases hst : d.actE = 0
      · rw [stops_of hst, hst]
        rw [hst] at HAc
        simp only [Bool.false_eq_true, if_false]
        have HR := Lib.hid hr
        have hgm := h.gm
        rw [← hn] at hx hmost
        generalize d.acted = d2 at HAc hx hmost
        have hpl := pad_length (s := bs) (by omega)
        clear h hE hW ha hr hst hn hlo
        go_enter Try.func10, Try.ntmps10
        go_wp2_with (first
          | (go_at_call 32; refine HK.out.mono ?_; rintro e w' ⟨rfl, rfl⟩)
          | (go_at_call 33; refine HAc.out.mono ?_; rintro e w1 ⟨rfl, hd1, ho1⟩))
        have hr1 : RB w1 A bs := by
          intro j v hj
          obtain ⟨a, ha, hc⟩ := HR.out j v hj
          exact ⟨a, ha, ho1.grown.cell hc (fun e => by injection e with e; refine hAg a ha (fun e0 => by rw [e0] at hj; simp at hj) ?_; rw [← e]; unfold Addr.add; split <;> rfl)⟩
        have k4 := hd1.c4
        have kc := RB.str (P := Try.prog) (w := w1.drew) (src := 29) (dst := 9) Try.underlying29 Try.underlying5 Try.underlying9 hr1.drew bs.length cc rfl
        have HFu := Lib.hid (full_any bs w1.drew (by omega))
        have hdD : DkAt w1.drew g k m c d2 := hd1.below (Below.refl _ _).drew
        have hoD : Only w w1.drew [g] := ho1.alike (Below.refl _ _).drew
        have HdD := Lib.hid hdD
        have HoD := Lib.hid hoD
        clear HK HAc HR hr1 hd1 ho1 hdD hoD
        go_region_law (first
          | (go_simp; go_at_call 34; refine HFu.out.mono ?_; rintro e w2 ⟨v2, rfl, ho2, hb2⟩
             obtain ⟨A2, c2, hv2, hl2, hA2⟩ := ho2.form
             rw [hpl] at hv2
             subst hv2
             have kc2 := RB.str (P := Try.prog) (w := w2) (src := 29) (dst := 9) Try.underlying29 Try.underlying5 Try.underlying9 (RB.of_own ho2) 128 c2 hpl.symm
             have hd2 := HdD.out.below hb2
             have k42 := hd2.c4
             obtain ⟨w3, hst3, hM3, hg3⟩ := hd2.map.store (by omega) x hx (pad bs) (by rw [hpl]; decide)
             have hd3 := Lib.hid (hd2.wrote hx hpl hM3 hg3)
             have ho3 := Lib.hid (((HoD.out.alike hb2).mono (T := [g, m]) (fun i h => by simp at h; simp [h])).trans ((Only.of_grown hg3).mono (fun i h => by simp at h; simp [h])))
             clear ho2 hd2 hM3 hg3))
        all_goals go_wp2
        all_goals go_returns
        all_goals exact ⟨rfl, hd3.out, ho3.out⟩
      · obtain ⟨h1, h9⟩ := stops_if hst
        rw [h1, h9]
        rw [h9] at HAc
        simp only [if_true]
        generalize d.acted = d2 at HAc
        clear h hE hW ha hr hst hn hlo h1 h9
        go_enter Try.func10, Try.ntmps10
        go_wp2_with (first
          | (go_at_call 32; refine HK.out.mono ?_; rintro e w' ⟨rfl, rfl⟩)
          | (go_at_call 33; refine HAc.out.mono ?_; rintro e w1 ⟨rfl, hd1, ho1⟩))
        go_returns
        exact ⟨rfl, hd1, ho1.mono (fun i h => by simp at h; simp [h])⟩
  · have hE : d.writeE i bs = 1 := by unfold Dsk.writeE; rw [if_pos ha]
    have hW : d.wrote i bs = d := by unfold Dsk.wrote; rw [if_pos ha]
    rw [hE, hW]
    rw [askE_one ha] at HK
    have HD := Lib.hid h
    clear h hE hW ha hr
    go_enter Try.func10, Try.ntmps10
    go_wp2_with (go_at_call 32; refine HK.out.mono ?_; rintro e w' ⟨rfl, rfl⟩)
    go_returns
    exact ⟨rfl, HD.out, Only.refl _ _⟩
/-- What Read answers. -/
def Dsk.readE (d : Dsk) (i : Int) : Nat := if d.askE i ≠ 0 then 1 else if d.dead then 9 else 0
set_option maxHeartbeats 800000 in
theorem read_any (g k m c : Nat) (d : Dsk) (i : Int) (w : World) (h : DkAt w g k m c d) :
    Calls Try.prog 69 #[.pointer (some ⟨g, 0, none⟩), .int .i64 i] w fun e w' => ∃ v, e = .returned (.tuple #[v, .int .i64 (d.readE i)]) ∧ OB w' w.heap.size v (if d.readE i = 0 then pad (d.now i.toNat) else []) ∧ Below w.heap.size w w' := by
  have HK := Lib.hid (ask_any g k m c d i w h)
  have k2 := h.c2
  by_cases ha : d.askE i = 0
  · rw [ha] at HK
    obtain ⟨hi0, hi1⟩ := askE_zero ha
    obtain ⟨x, rfl⟩ : ∃ x : Nat, i = (x : Int) := ⟨i.toNat, by omega⟩
    have HN := Lib.hid (now_any g k m c d x w h (by omega))
    have hnl := h.ok.now x
    have HFu := Lib.hid (full_any (d.now x) w hnl)
    cases hd : d.dead with
    | true =>
      have hE : d.readE x = 9 := by unfold Dsk.readE; rw [ha, if_neg (by decide), hd]; rfl
      rw [hE]
      rw [hd] at k2
      clear h hE ha
      go_enter Try.func69, Try.ntmps69
      go_wp2_with (go_at_call 32; refine HK.out.mono ?_; rintro e w' ⟨rfl, rfl⟩)
      go_ret2
      exact ⟨_, rfl, World.ownsRow_nil _ _ _ _, Below.refl _ _⟩
    | false =>
      have hE : d.readE x = 0 := by unfold Dsk.readE; rw [ha, if_neg (by decide), hd]; rfl
      rw [hE, Int.toNat_natCast]
      simp only [if_true]
      rw [hd] at k2
      generalize d.now x = y at HN HFu
      clear h hE ha
      go_enter Try.func69, Try.ntmps69
      go_wp2_with (first
        | (go_at_call 32; refine HK.out.mono ?_; rintro e w' ⟨rfl, rfl⟩)
        | (go_at_call 77; refine HN.out.mono ?_; rintro e w' ⟨rfl, rfl⟩)
        | (go_at_call 34; refine HFu.out.mono ?_; rintro e w2 ⟨v2, rfl, ho2, hb2⟩))
      go_ret2
      exact ⟨_, rfl, ho2, hb2⟩
  · have hE : d.readE i = 1 := by unfold Dsk.readE; rw [if_pos ha]
    rw [hE]
    rw [askE_one ha] at HK
    clear h hE ha
    go_enter Try.func69, Try.ntmps69
    go_wp2_with (go_at_call 32; refine HK.out.mono ?_; rintro e w' ⟨rfl, rfl⟩)
    go_ret2
    exact ⟨_, rfl, World.ownsRow_nil _ _ _ _, Below.refl _ _⟩
end Go.Proofs.Ytjfpanamkkdebaa
