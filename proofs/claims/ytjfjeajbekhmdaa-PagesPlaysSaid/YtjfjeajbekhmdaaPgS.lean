/- The document's Sync: the walk. -/
import Derived.Test.YtjfjeajbekhmdaaPgR
namespace Go.Proofs.Ytjfjeajbekhmdaa
open Go.RowKit Go.Maps
set_option linter.unusedVariables false
set_option linter.unusedSimpArgs false
/-- The first are as these, the others as those. -/
def upto {α : Type} (n : Nat) (f f' : Nat → α) (j : Nat) : List α := (List.range n).map fun i => if i < j then f' i else f i
theorem upto_zero {α : Type} (n : Nat) (f f' : Nat → α) : upto n f f' 0 = (List.range n).map f := by simp [upto]
theorem upto_step {α : Type} (n : Nat) (f f' : Nat → α) (j : Nat) : upto n f f' (j + 1) = (upto n f f' j).set j (f' j) := by
  refine set_range _ _ _ _ _ ?_ ?_
  · simp
  · intro i hi
    by_cases h : i < j
    · simp only [if_pos h, if_pos (show i < j + 1 by omega)]
    · simp only [if_neg h, if_neg (show ¬ i < j + 1 by omega)]
theorem upto_end {α : Type} (n : Nat) (f f' : Nat → α) : upto n f f' n = (List.range n).map f' := by
  refine List.ext_getElem (by simp [upto]) fun i h1 h2 => ?_
  have : i < n := by simpa [upto] using h1
  simp [upto, this]
theorem upto_length {α : Type} (n : Nat) (f f' : Nat → α) (j : Nat) : (upto n f f' j).length = n := by simp [upto]
theorem synced_is {d : Dsk} (hs : d.stops = false) : d.synced = { d.acted with kept := (List.range d.kept.length).map d.now, loose := fun _ => none } := by
  unfold Dsk.synced; rw [hs]; rfl
theorem getD_range {α : Type} (n : Nat) (f : Nat → α) (i : Nat) (z : α) (h : i < n) : ((List.range n).map f).getD i z = f i := by
  rw [List.getD_eq_getElem?_getD]; simp [h]
theorem map_range_congr {α : Type} (n : Nat) (f f' : Nat → α) (h : ∀ i, i < n → f i = f' i) : (List.range n).map f = (List.range n).map f' :=
  List.map_congr_left fun i hi => h i (List.mem_range.1 hi)
theorem synced_nows {d : Dsk} (hs : d.stops = false) : d.synced.nows = d.nows := by
  rw [synced_is hs]
  show (List.range ((List.range d.kept.length).map d.now).length).map (fun i => pad (((List.range d.kept.length).map d.now).getD i [])) = _
  rw [List.length_map, List.length_range]
  exact map_range_congr _ _ _ fun i hi => by rw [getD_range _ _ _ _ hi]
theorem synced_hads {d : Dsk} (hs : d.stops = false) : d.synced.hads = d.nows := by
  rw [synced_is hs]
  show (List.range ((List.range d.kept.length).map d.now).length).map (fun i => pad (((List.range d.kept.length).map d.now).getD i [])) = _
  rw [List.length_map, List.length_range]
  exact map_range_congr _ _ _ fun i hi => by rw [getD_range _ _ _ _ hi]
theorem synced_iss {d : Dsk} (hs : d.stops = false) : d.synced.iss = (List.range d.kept.length).map fun _ => false := by
  rw [synced_is hs]
  show (List.range ((List.range d.kept.length).map d.now).length).map (fun i => false) = _
  rw [List.length_map, List.length_range]
set_option maxHeartbeats 3200000 in
theorem rsync_any (g a b c x y z : Nat) (d : Dsk) (w : World) (h : RfAt w g a b c x y z d) (hk : d.Ok) :
    Calls Try.prog 26 #[.pointer (some ⟨g, 0, none⟩)] w fun e w' => e = .returned (.int .i64 d.actE) ∧ RfAt w' g a b c x y z d.synced ∧ Only w w' [g, b, c] := by
  have hmost := hk.most
  have HAc := Lib.hid (ract_any g a b c x y z d.kept.length d.nows d.hads d.iss d w h hk.left)
  by_cases hst : d.actE = 0
  · have hs := stops_of hst
    rw [hst] at HAc ⊢
    unfold RfAt
    rw [synced_nows hs, synced_hads hs, synced_iss hs]
    have hsi := synced_is hs
    have e1 : d.synced.leftI = d.acted.leftI := by rw [hsi]; rfl
    have e2 : d.synced.dead = d.acted.dead := by rw [hsi]
    have e3 : d.synced.kept.length = d.kept.length := by rw [hsi]; simp
    rw [e1, e2, e3]
    clear h hk hst hs hsi e1 e2 e3
    generalize d.acted.leftI = lf at HAc ⊢
    generalize d.acted.dead = de at HAc ⊢
    unfold Dsk.nows Dsk.hads Dsk.iss at *
    generalize (fun i => pad (d.now i)) = fN at HAc ⊢
    generalize (fun i => pad (d.kept.getD i [])) = fH at HAc ⊢
    generalize (fun i => (d.loose i).isSome) = fI at HAc ⊢
    generalize d.kept.length = n at HAc hmost ⊢
    have hNl : ((List.range n).map fN).length = n := by simp
    have hNa : ∀ j, j < n → ((List.range n).map fN)[j]? = some (fN j) := fun j hj => by simp [hj]
    rw [← upto_zero n fH fN, ← upto_zero n fI (fun _ => false)] at HAc
    rw [← upto_end n fI (fun _ => false)]
    obtain ⟨E, hE⟩ : ∃ E, E = (List.range n).map fN := ⟨_, rfl⟩
    have hEe : E = upto n fH fN n := by rw [upto_end]; exact hE
    rw [← hE] at HAc hNl hNa ⊢
    clear hE
    go_enter Try.func26, Try.ntmps26
    go_wp2_with (go_at_call 35; refine HAc.out.mono ?_; rintro e w1 ⟨rfl, hd1, ho1⟩
                 have kk0 := hd1.c0)
    go_loopg [15] n (fun r i wr => ∃ j : Nat, j + r = n ∧ i = .int .i64 j ∧ Rf wr g a b c x y z n E (upto n fH fN j) (upto n fI (fun _ => false) j) lf de ∧ Only w wr [g, b, c])
    case atStart => exact ⟨0, by omega, rfl, hd1, ho1.mono (fun i h => by simp at h; simp [h])⟩
    case round =>
      clear hd1 ho1 kk0
      obtain ⟨j, hj, rfl, hd, ho⟩ := hrel
      by_cases hjn : j < n
      · have hj0 : (0 : Int) ≤ (j : Int) := by omega
        have hj1 : (j : Int) < (n : Int) := by omega
        have q0 := hd.c0
        have q1 := hd.c1
        have q2 := hd.c2
        have hga := hd.ga
        have hgb := hd.gb
        have hgc := hd.gc
        have hab := hd.ab
        have hbc := hd.bc
        have qn := World.ownsRow.cellAt hd.rn j (by omega)
        rw [List.getElem?_map, hNa j hjn] at qn
        simp only [Option.map_some] at qn
        unfold vs at qn
        have qh := World.ownsRow.cellAt hd.rh j (by omega)
        rw [List.getElem?_map, List.getElem?_eq_getElem (by rw [upto_length]; exact hjn)] at qh
        have qhf := World.ownsRow.frozenAt hd.rh j
        generalize (upto n fH fN j)[j]'(by rw [upto_length]; exact hjn) = oldH at qh
        simp only [Option.map_some] at qh
        unfold vs at qh
        obtain ⟨W2, hW2⟩ : ∃ W2, W2 = (wr.setCell ⟨b, j, none⟩ (.string (str (fN j)))).drew := ⟨_, rfl⟩
        have hs2 := hd.setH j (fN j)
        rw [← upto_step] at hs2
        have hd2 := hs2.1.below (Below.refl _ _).drew
        have ho2 := ho.trans ((hs2.2.alike (Below.refl _ _).drew).mono (T := [g, b, c]) (fun i h => by simp at h; simp [h]))
        rw [← hW2] at hd2 ho2
        have mm2 := hd2.c2
        have mmc := World.ownsRow.cellAt hd2.ri j (by omega)
        rw [List.getElem?_map, List.getElem?_eq_getElem (by rw [upto_length]; exact hjn)] at mmc
        have mmf := World.ownsRow.frozenAt hd2.ri j
        generalize (upto n fI (fun _ => false) j)[j]'(by rw [upto_length]; exact hjn) = oldI at mmc
        simp only [Option.map_some] at mmc
        have hs3 := hd2.setI j false
        have hstep := upto_step n fI (fun _ => false) j
        try simp only at hstep
        rw [← hstep] at hs3
        have HS3 := Lib.hid hs3
        have HO2 := Lib.hid ho2
        have HW3 := Lib.hid hW2
        clear hs2 hd2 ho2 hW2 hs3 hd ho hstep hNa
        go_wp2_with fail
        go_region_law (fail)
        all_goals rw [← HW3.out]
        all_goals go_wp2
        all_goals go_roundg (n - (j + 1))
        all_goals try omega
        all_goals exact ⟨j + 1, by omega, by go_num, HS3.out.1, HO2.out.trans (HS3.out.2.mono (fun i h => by simp at h; simp [h]))⟩
      · obtain rfl : j = n := by omega
        rw [← hEe] at hd
        go_wp2
        go_returns
        exact ⟨rfl, hd, ho⟩
  · obtain ⟨h1, h9⟩ := stops_if hst
    have hW : d.synced = d.acted := by unfold Dsk.synced; rw [h1]; rfl
    rw [h9] at HAc ⊢
    rw [hW]
    have HX := Lib.hid (fun w' => @acted_at w' g a b c x y z d _ rfl)
    clear h hst h1 h9 hk
    generalize d.acted = d2 at HAc HX ⊢
    go_enter Try.func26, Try.ntmps26
    go_wp2_with (go_at_call 35; refine HAc.out.mono ?_; rintro e w1 ⟨rfl, hd1, ho1⟩)
    go_returns
    exact ⟨rfl, HX.out _ hd1, ho1.mono (fun i h => by simp at h; simp [h])⟩
end Go.Proofs.Ytjfjeajbekhmdaa
